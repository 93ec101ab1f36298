import Derived.Test.YtmhoikfoogemnaaGreatDoorKCg
namespace Go.Vc
open Go Go.RowKit Go.Proofs
set_option linter.unusedVariables false
set_option maxRecDepth 100000
noncomputable def tyC:List (List TypeInfo):=[[Tryz.t0,Tryz.t1,Tryz.t2,Tryz.t3,Tryz.t4,Tryz.t5,Tryz.t6,Tryz.t7,Tryz.t8,Tryz.t9,Tryz.t10,Tryz.t11,Tryz.t12,Tryz.t13,Tryz.t14,Tryz.t15],[Tryz.t16,Tryz.t17,Tryz.t18,Tryz.t19,Tryz.t20,Tryz.t21,Tryz.t22,Tryz.t23,Tryz.t24,Tryz.t25,Tryz.t26,Tryz.t27,Tryz.t28,Tryz.t29,Tryz.t30,Tryz.t31],[Tryz.t32,Tryz.t33,Tryz.t34,Tryz.t35,Tryz.t36,Tryz.t37,Tryz.t38,Tryz.t39,Tryz.t40,Tryz.t41,Tryz.t42,Tryz.t43,Tryz.t44,Tryz.t45,Tryz.t46,Tryz.t47],[Tryz.t48,Tryz.t49,Tryz.t50,Tryz.t51,Tryz.t52,Tryz.t53,Tryz.t54,Tryz.t55,Tryz.t56,Tryz.t57,Tryz.t58,Tryz.t59,Tryz.t60,Tryz.t61,Tryz.t62,Tryz.t63],[Tryz.t64,Tryz.t65,Tryz.t66,Tryz.t67,Tryz.t68,Tryz.t69,Tryz.t70,Tryz.t71,Tryz.t72,Tryz.t73,Tryz.t74,Tryz.t75,Tryz.t76,Tryz.t77,Tryz.t78,Tryz.t79],[Tryz.t80,Tryz.t81,Tryz.t82,Tryz.t83,Tryz.t84,Tryz.t85,Tryz.t86,Tryz.t87,Tryz.t88,Tryz.t89,Tryz.t90,Tryz.t91,Tryz.t92,Tryz.t93,Tryz.t94,Tryz.t95],[Tryz.t96,Tryz.t97,Tryz.t98,Tryz.t99,Tryz.t100,Tryz.t101,Tryz.t102,Tryz.t103,Tryz.t104,Tryz.t105,Tryz.t106,Tryz.t107,Tryz.t108,Tryz.t109,Tryz.t110,Tryz.t111],[Tryz.t112,Tryz.t113,Tryz.t114,Tryz.t115,Tryz.t116,Tryz.t117,Tryz.t118,Tryz.t119,Tryz.t120,Tryz.t121,Tryz.t122,Tryz.t123,Tryz.t124,Tryz.t125,Tryz.t126,Tryz.t127],[Tryz.t128,Tryz.t129,Tryz.t130,Tryz.t131,Tryz.t132,Tryz.t133,Tryz.t134,Tryz.t135,Tryz.t136,Tryz.t137,Tryz.t138,Tryz.t139,Tryz.t140,Tryz.t141,Tryz.t142,Tryz.t143],[Tryz.t144,Tryz.t145,Tryz.t146,Tryz.t147,Tryz.t148,Tryz.t149,Tryz.t150,Tryz.t151,Tryz.t152,Tryz.t153,Tryz.t154,Tryz.t155,Tryz.t156,Tryz.t157,Tryz.t158,Tryz.t159],[Tryz.t160,Tryz.t161,Tryz.t162,Tryz.t163,Tryz.t164,Tryz.t165,Tryz.t166,Tryz.t167,Tryz.t168,Tryz.t169,Tryz.t170,Tryz.t171,Tryz.t172,Tryz.t173,Tryz.t174,Tryz.t175],[Tryz.t176,Tryz.t177,Tryz.t178,Tryz.t179,Tryz.t180,Tryz.t181,Tryz.t182,Tryz.t183,Tryz.t184,Tryz.t185,Tryz.t186,Tryz.t187,Tryz.t188,Tryz.t189,Tryz.t190,Tryz.t191],[Tryz.t192,Tryz.t193,Tryz.t194,Tryz.t195,Tryz.t196,Tryz.t197,Tryz.t198,Tryz.t199,Tryz.t200,Tryz.t201,Tryz.t202,Tryz.t203,Tryz.t204,Tryz.t205,Tryz.t206,Tryz.t207],[Tryz.t208,Tryz.t209,Tryz.t210,Tryz.t211,Tryz.t212,Tryz.t213,Tryz.t214,Tryz.t215,Tryz.t216,Tryz.t217,Tryz.t218,Tryz.t219,Tryz.t220,Tryz.t221,Tryz.t222,Tryz.t223],[Tryz.t224,Tryz.t225,Tryz.t226,Tryz.t227,Tryz.t228,Tryz.t229,Tryz.t230,Tryz.t231,Tryz.t232,Tryz.t233,Tryz.t234,Tryz.t235,Tryz.t236,Tryz.t237,Tryz.t238,Tryz.t239]]
def um {α:Type} :List α→Nat→Option α
 | [],_=>none
 | x:: _,0=>some x
 | _ ::r,n+1=>um r n
noncomputable def ET (t:Nat):Option TypeInfo:=match um tyC (t / 16)with | some l=>um l (t % 16) | none=>none
def TyL:Nat→List TypeInfo→Prop
 | _,[]=>True
 | k,i::r=>Tryz.prog.info? k=some i∧TyL (k+1) r
def TyA:Nat→List (List TypeInfo)→Prop
 | _,[]=>True
 | k,l::r=>TyL (k * 16) l∧TyA (k+1) r
theorem ty_0:TyL 0 [Tryz.t0,Tryz.t1,Tryz.t2,Tryz.t3,Tryz.t4,Tryz.t5,Tryz.t6,Tryz.t7,Tryz.t8,Tryz.t9,Tryz.t10,Tryz.t11,Tryz.t12,Tryz.t13,Tryz.t14,Tryz.t15]:=⟨by kernel_rfl,by kernel_rfl,by kernel_rfl,by kernel_rfl,by kernel_rfl,by kernel_rfl,by kernel_rfl,by kernel_rfl,by kernel_rfl,by kernel_rfl,by kernel_rfl,by kernel_rfl,by kernel_rfl,by kernel_rfl,by kernel_rfl,by kernel_rfl,trivial⟩
theorem ty_1:TyL 16 [Tryz.t16,Tryz.t17,Tryz.t18,Tryz.t19,Tryz.t20,Tryz.t21,Tryz.t22,Tryz.t23,Tryz.t24,Tryz.t25,Tryz.t26,Tryz.t27,Tryz.t28,Tryz.t29,Tryz.t30,Tryz.t31]:=⟨by kernel_rfl,by kernel_rfl,by kernel_rfl,by kernel_rfl,by kernel_rfl,by kernel_rfl,by kernel_rfl,by kernel_rfl,by kernel_rfl,by kernel_rfl,by kernel_rfl,by kernel_rfl,by kernel_rfl,by kernel_rfl,by kernel_rfl,by kernel_rfl,trivial⟩
theorem ty_2:TyL 32 [Tryz.t32,Tryz.t33,Tryz.t34,Tryz.t35,Tryz.t36,Tryz.t37,Tryz.t38,Tryz.t39,Tryz.t40,Tryz.t41,Tryz.t42,Tryz.t43,Tryz.t44,Tryz.t45,Tryz.t46,Tryz.t47]:=⟨by kernel_rfl,by kernel_rfl,by kernel_rfl,by kernel_rfl,by kernel_rfl,by kernel_rfl,by kernel_rfl,by kernel_rfl,by kernel_rfl,by kernel_rfl,by kernel_rfl,by kernel_rfl,by kernel_rfl,by kernel_rfl,by kernel_rfl,by kernel_rfl,trivial⟩
theorem ty_3:TyL 48 [Tryz.t48,Tryz.t49,Tryz.t50,Tryz.t51,Tryz.t52,Tryz.t53,Tryz.t54,Tryz.t55,Tryz.t56,Tryz.t57,Tryz.t58,Tryz.t59,Tryz.t60,Tryz.t61,Tryz.t62,Tryz.t63]:=⟨by kernel_rfl,by kernel_rfl,by kernel_rfl,by kernel_rfl,by kernel_rfl,by kernel_rfl,by kernel_rfl,by kernel_rfl,by kernel_rfl,by kernel_rfl,by kernel_rfl,by kernel_rfl,by kernel_rfl,by kernel_rfl,by kernel_rfl,by kernel_rfl,trivial⟩
theorem ty_4:TyL 64 [Tryz.t64,Tryz.t65,Tryz.t66,Tryz.t67,Tryz.t68,Tryz.t69,Tryz.t70,Tryz.t71,Tryz.t72,Tryz.t73,Tryz.t74,Tryz.t75,Tryz.t76,Tryz.t77,Tryz.t78,Tryz.t79]:=⟨by kernel_rfl,by kernel_rfl,by kernel_rfl,by kernel_rfl,by kernel_rfl,by kernel_rfl,by kernel_rfl,by kernel_rfl,by kernel_rfl,by kernel_rfl,by kernel_rfl,by kernel_rfl,by kernel_rfl,by kernel_rfl,by kernel_rfl,by kernel_rfl,trivial⟩
theorem ty_5:TyL 80 [Tryz.t80,Tryz.t81,Tryz.t82,Tryz.t83,Tryz.t84,Tryz.t85,Tryz.t86,Tryz.t87,Tryz.t88,Tryz.t89,Tryz.t90,Tryz.t91,Tryz.t92,Tryz.t93,Tryz.t94,Tryz.t95]:=⟨by kernel_rfl,by kernel_rfl,by kernel_rfl,by kernel_rfl,by kernel_rfl,by kernel_rfl,by kernel_rfl,by kernel_rfl,by kernel_rfl,by kernel_rfl,by kernel_rfl,by kernel_rfl,by kernel_rfl,by kernel_rfl,by kernel_rfl,by kernel_rfl,trivial⟩
theorem ty_6:TyL 96 [Tryz.t96,Tryz.t97,Tryz.t98,Tryz.t99,Tryz.t100,Tryz.t101,Tryz.t102,Tryz.t103,Tryz.t104,Tryz.t105,Tryz.t106,Tryz.t107,Tryz.t108,Tryz.t109,Tryz.t110,Tryz.t111]:=⟨by kernel_rfl,by kernel_rfl,by kernel_rfl,by kernel_rfl,by kernel_rfl,by kernel_rfl,by kernel_rfl,by kernel_rfl,by kernel_rfl,by kernel_rfl,by kernel_rfl,by kernel_rfl,by kernel_rfl,by kernel_rfl,by kernel_rfl,by kernel_rfl,trivial⟩
theorem ty_7:TyL 112 [Tryz.t112,Tryz.t113,Tryz.t114,Tryz.t115,Tryz.t116,Tryz.t117,Tryz.t118,Tryz.t119,Tryz.t120,Tryz.t121,Tryz.t122,Tryz.t123,Tryz.t124,Tryz.t125,Tryz.t126,Tryz.t127]:=⟨by kernel_rfl,by kernel_rfl,by kernel_rfl,by kernel_rfl,by kernel_rfl,by kernel_rfl,by kernel_rfl,by kernel_rfl,by kernel_rfl,by kernel_rfl,by kernel_rfl,by kernel_rfl,by kernel_rfl,by kernel_rfl,by kernel_rfl,by kernel_rfl,trivial⟩
theorem ty_8:TyL 128 [Tryz.t128,Tryz.t129,Tryz.t130,Tryz.t131,Tryz.t132,Tryz.t133,Tryz.t134,Tryz.t135,Tryz.t136,Tryz.t137,Tryz.t138,Tryz.t139,Tryz.t140,Tryz.t141,Tryz.t142,Tryz.t143]:=⟨by kernel_rfl,by kernel_rfl,by kernel_rfl,by kernel_rfl,by kernel_rfl,by kernel_rfl,by kernel_rfl,by kernel_rfl,by kernel_rfl,by kernel_rfl,by kernel_rfl,by kernel_rfl,by kernel_rfl,by kernel_rfl,by kernel_rfl,by kernel_rfl,trivial⟩
theorem ty_9:TyL 144 [Tryz.t144,Tryz.t145,Tryz.t146,Tryz.t147,Tryz.t148,Tryz.t149,Tryz.t150,Tryz.t151,Tryz.t152,Tryz.t153,Tryz.t154,Tryz.t155,Tryz.t156,Tryz.t157,Tryz.t158,Tryz.t159]:=⟨by kernel_rfl,by kernel_rfl,by kernel_rfl,by kernel_rfl,by kernel_rfl,by kernel_rfl,by kernel_rfl,by kernel_rfl,by kernel_rfl,by kernel_rfl,by kernel_rfl,by kernel_rfl,by kernel_rfl,by kernel_rfl,by kernel_rfl,by kernel_rfl,trivial⟩
theorem HY:TyL 160 [Tryz.t160,Tryz.t161,Tryz.t162,Tryz.t163,Tryz.t164,Tryz.t165,Tryz.t166,Tryz.t167,Tryz.t168,Tryz.t169,Tryz.t170,Tryz.t171,Tryz.t172,Tryz.t173,Tryz.t174,Tryz.t175]:=⟨by kernel_rfl,by kernel_rfl,by kernel_rfl,by kernel_rfl,by kernel_rfl,by kernel_rfl,by kernel_rfl,by kernel_rfl,by kernel_rfl,by kernel_rfl,by kernel_rfl,by kernel_rfl,by kernel_rfl,by kernel_rfl,by kernel_rfl,by kernel_rfl,trivial⟩
theorem HX:TyL 176 [Tryz.t176,Tryz.t177,Tryz.t178,Tryz.t179,Tryz.t180,Tryz.t181,Tryz.t182,Tryz.t183,Tryz.t184,Tryz.t185,Tryz.t186,Tryz.t187,Tryz.t188,Tryz.t189,Tryz.t190,Tryz.t191]:=⟨by kernel_rfl,by kernel_rfl,by kernel_rfl,by kernel_rfl,by kernel_rfl,by kernel_rfl,by kernel_rfl,by kernel_rfl,by kernel_rfl,by kernel_rfl,by kernel_rfl,by kernel_rfl,by kernel_rfl,by kernel_rfl,by kernel_rfl,by kernel_rfl,trivial⟩
theorem HW:TyL 192 [Tryz.t192,Tryz.t193,Tryz.t194,Tryz.t195,Tryz.t196,Tryz.t197,Tryz.t198,Tryz.t199,Tryz.t200,Tryz.t201,Tryz.t202,Tryz.t203,Tryz.t204,Tryz.t205,Tryz.t206,Tryz.t207]:=⟨by kernel_rfl,by kernel_rfl,by kernel_rfl,by kernel_rfl,by kernel_rfl,by kernel_rfl,by kernel_rfl,by kernel_rfl,by kernel_rfl,by kernel_rfl,by kernel_rfl,by kernel_rfl,by kernel_rfl,by kernel_rfl,by kernel_rfl,by kernel_rfl,trivial⟩
theorem HV:TyL 208 [Tryz.t208,Tryz.t209,Tryz.t210,Tryz.t211,Tryz.t212,Tryz.t213,Tryz.t214,Tryz.t215,Tryz.t216,Tryz.t217,Tryz.t218,Tryz.t219,Tryz.t220,Tryz.t221,Tryz.t222,Tryz.t223]:=⟨by kernel_rfl,by kernel_rfl,by kernel_rfl,by kernel_rfl,by kernel_rfl,by kernel_rfl,by kernel_rfl,by kernel_rfl,by kernel_rfl,by kernel_rfl,by kernel_rfl,by kernel_rfl,by kernel_rfl,by kernel_rfl,by kernel_rfl,by kernel_rfl,trivial⟩
theorem HU:TyL 224 [Tryz.t224,Tryz.t225,Tryz.t226,Tryz.t227,Tryz.t228,Tryz.t229,Tryz.t230,Tryz.t231,Tryz.t232,Tryz.t233,Tryz.t234,Tryz.t235,Tryz.t236,Tryz.t237,Tryz.t238,Tryz.t239]:=⟨by kernel_rfl,by kernel_rfl,by kernel_rfl,by kernel_rfl,by kernel_rfl,by kernel_rfl,by kernel_rfl,by kernel_rfl,by kernel_rfl,by kernel_rfl,by kernel_rfl,by kernel_rfl,by kernel_rfl,by kernel_rfl,by kernel_rfl,by kernel_rfl,trivial⟩
theorem tyA:TyA 0 tyC:=⟨ty_0,ty_1,ty_2,ty_3,ty_4,ty_5,ty_6,ty_7,ty_8,ty_9,HY,HX,HW,HV,HU,trivial⟩
theorem TyL.get:∀ {l:List TypeInfo} {k j:Nat} {i:TypeInfo},TyL k l→um l j=some i→Tryz.prog.info? (k+j)=some i
 | [],_,_,_,_,h=>by cases h
 | _ :: _,k,0,_,h,e=>by injection e with e;subst e;exact h.1
 | _ ::r,k,j+1,_,h,e=>by have:=TyL.get (l:=r) h.2 e;rw[Nat.add_right_comm]at this;exact this
theorem TyA.get:∀ {l:List (List TypeInfo)} {k j:Nat} {q:List TypeInfo},TyA k l→um l j=some q→TyL ((k+j) * 16) q
 | [],_,_,_,_,h=>by cases h
 | _ :: _,k,0,_,h,e=>by injection e with e;subst e;exact h.1
 | _ ::r,k,j+1,_,h,e=>by have:=TyA.get (l:=r) h.2 e;rw[Nat.add_right_comm]at this;exact this
theorem yg {t:Nat} {i:TypeInfo} (h:ET t=some i):Tryz.prog.info? t=some i:=by
 unfold ET at h
 split at h
 ·next l e=>
  have:=(tyA.get e).get h
  rwa [Nat.zero_add,Nat.mul_comm,Nat.div_add_mod]at this
 ·cases h
def Il:TypeInfo→TypeDesc
 | { desc:=d,.. } =>d
def siz:TypeInfo→Nat
 | { size:=z,.. } =>z
theorem Hp (i:TypeInfo):Il i=i.desc:=by cases i;rfl
theorem Gw (i:TypeInfo):siz i=i.size:=by cases i;rfl
noncomputable def HR:TypeDesc→Option TypeDesc
 | .named _ u=>match ET u with | some i=>some (Il i) | none=>none
 | d=>some d
noncomputable def yf (t:Nat):Option TypeDesc:=match ET t with | some i=>HR (Il i) | none=>none
noncomputable def Da (t:Nat):Option Nat:=match ET t with | some i=>some (siz i) | none=>none
theorem jU {t:Nat} {d:TypeDesc} (h:yf t=some d):Tryz.prog.underlying t=some d:=by
 unfold yf at h
 unfold Program.underlying
 cases e:ET t with
 | none=>rw[e]at h;cases h
 | some i=>
  rw[e]at h
  rw[yg e]
  cases i with
  | mk desc=>
   dsimp only[Il]at h
   cases desc with
   | named q u=>
    unfold HR at h
    dsimp only at h ⊢
    cases e2:ET u with
    | none=>rw[e2]at h;cases h
    | some i2=>rw[e2]at h;rw[yg e2, ← h];show some i2.desc=some (Il i2);rw[Hp]
   | _=>exact h
theorem pR {t s:Nat} (h:Da t=some s):(Tryz.prog.info? t).map (·.size)=some s:=by
 unfold Da at h
 cases e:ET t with
 | none=>rw[e]at h;cases h
 | some i=>rw[e]at h;rw[yg e, ← h];show some i.size=some (siz i);rw[Gw]
section
variable {ro:Ro} {n:Fr} {Kn:Act→World→Prop} {Ke:Nat→Act→World→Prop} {Kr:Act→World→Prop} {env:kE} {w:World}
variable {ops:Array Oper} {rest:List Oper} {o:Oper} {v:Value} {x:Operand} {c:Bool}
def Cw (m:Nat) (env:kE):Operand→Option Value
 | .tmp t=>match Nat.blt t m with | true=>look env t | false=>none
 | .const v=>some v
 | .func f=>some (.func (.func f) #[] #[])
 | .global g=>some (.pointer (some ⟨g,0,none⟩))
theorem m4 (h:Cw n.n env x=some v):Ev n env x v:=by
 cases x with
 | tmp t=>
  unfold Cw at h;dsimp only at h
  cases hb:Nat.blt t n.n with
  | true=>rw[hb]at h;exact aK h hb
  | false=>rw[hb]at h;cases h
 | const u=>injection h with h;subst h;exact ao
 | func f=>injection h with h;subst h;exact B9
 | global g=>injection h with h;subst h;exact CU
def Iq (k:IntKind) (p q:Int):BinOp→Option Value
 | .add=>some (.int k (k.wrap (p+q)))
 | .sub=>some (.int k (k.wrap (p - q)))
 | .mul=>some (.int k (k.wrap (p * q)))
 | .eql=>some (.bool (decide (p=q)))
 | .neq=>some (.bool (!decide (p=q)))
 | .lss=>some (.bool (decide (p<q)))
 | .leq=>some (.bool (decide (p≤q)))
 | .gtr=>some (.bool (decide (q<p)))
 | .geq=>some (.bool (decide (q≤p)))
 | _=>none
def Ip (l l':List UInt8):BinOp→Option Value
 | .eql=>some (.bool (decide (l=l')))
 | .neq=>some (.bool (!decide (l=l')))
 | .lss=>some (.bool (Op.bytesLess l l'))
 | .geq=>some (.bool (!Op.bytesLess l l'))
 | _=>none
def H4 (bop:BinOp):Value→Value→Option Value
 | .int k p,.int k' q=>match decide (k=k')with | true=>Iq k p q bop | false=>none
 | .string ⟨⟨l⟩⟩,.string ⟨⟨l'⟩⟩=>Ip l l' bop
 | _,_=>none
theorem v7 {α:Type} :∀ {l:List α} {i:Nat} {x:α},um l i=some x→l[i]? =some x
 | [],_,_,h=>by cases h
 | y:: _,0,x,h=>h
 | _ ::r,n+1,x,h=>by rw[List.getElem?_cons_succ];exact v7 (l:=r) h
theorem mK {α:Type} {a:Array α} {i:Nat} {x:α} (h:um a.toList i=some x):a[i]? =some x:=by rw[← Array.getElem?_toList];exact v7 h
theorem vg {ops:Array Oper} {j t:Nat} (h:(um ops.toList j).bind (·.dst)=some t):(ops[j]?).bind (·.dst)=some t:=by
 cases e:um ops.toList j with
 | none=>rw[e]at h;cases h
 | some y=>rw[e]at h;rw[mK e];exact h
noncomputable def Fi (ad:Addr) (i:Nat):Option TypeDesc→Option Value
 | some (.struct ⟨fs⟩)=>match um fs i with
  | some ⟨_,t,o,_,_,_,_⟩=>match Da t with | some (_ +1)=>some (.pointer (some (ad.add o))) | _=>none
  | none=>none
 | _=>none
noncomputable def Fh:Option TypeDesc→Value→Option Value
 | some .string,.string ⟨⟨l⟩⟩=>some (.int .i64 l.length)
 | some (.slice _),.slice _ m _=>some (.int .i64 m)
 | _,_=>none
noncomputable def Fj:Option TypeDesc→Option TypeDesc→Value→Option Value
 | some _,some (.int k),.int _ p=>some (.int k (k.wrap p))
 | _,_,_=>none
noncomputable def qv (m:Nat) (env:kE):Op→Option Value
 | .move x=>Cw m env x
 | .assign x=>Cw m env x
 | .nilCheck x=>match Cw m env x with | some (.pointer (some ad))=>some (.pointer (some ad)) | _=>none
 | .extract x i=>match Cw m env x with | some (.tuple ⟨vs⟩)=>um vs i | _=>none
 | .fieldAddr t x i=>match Cw m env x with | some (.pointer (some ad))=>Fi ad i (yf t) | _=>none
 | .binOp bop _ x y _=>match Cw m env x,Cw m env y with | some a,some b=>H4 bop a b | _,_=>none
 | .unOp .not _ x=>match Cw m env x with | some (.bool b)=>some (.bool (!b)) | _=>none
 | .unOp .neg _ x=>match Cw m env x with | some (.int k p)=>some (.int k (k.wrap (-p))) | _=>none
 | .convert t t' x=>match Cw m env x with | some a=>Fj (yf t) (yf t') a | none=>none
 | .call ⟨.builtin .len,⟨[x]⟩,⟨[t]⟩⟩=>match Cw m env x with | some a=>Fh (yf t) a | none=>none
 | _=>none
theorem BU {op:Op} (ho:o.op=op) (h:qv n.n env op=some v):hH Tryz.prog n env o v w:=by
 unfold qv at h
 split at h
 ·exact ft ho (m4 h)
 ·exact cy ho (m4 h)
 ·split at h
  ·next e=>injection h with h;subst h;exact nI ho (m4 e)
  ·cases h
 ·split at h
  ·next e=>exact eW ho (m4 e) (by rw[List.getElem?_toArray];exact v7 h)
  ·cases h
 ·split at h
  ·next e=>
   unfold Fi at h
   split at h
   ·next e1=>
    split at h
    ·next e2=>
     split at h
     ·next e3=>injection h with h;subst h;exact aN ho (m4 e) (jU e1) (by rw[List.getElem?_toArray];exact v7 e2) (pR e3) rfl
     ·cases h
    ·cases h
   ·cases h
  ·cases h
 ·split at h
  ·next bop t x y t' _ _ a b ea eb=>
   unfold H4 at h
   split at h
   ·next k p k' q=>
    split at h
    ·next ek=>
     have ek:=of_decide_eq_true ek
     subst ek
     unfold Iq at h
     have ha:=m4 ea;have hb:=m4 eb
     split at h<;>first | (cases h;done) | (injection h with h;subst h)
     ·exact qo ho ha hb
     ·exact uc ho ha hb
     ·exact ud ho ha hb
     ·exact zp ho ha hb
     ·exact ow ho ha hb
     ·exact qE ho ha hb
     ·exact Dn ho ha hb
     ·exact rF ho ha hb
     ·exact Dq ho ha hb
    ·cases h
   ·next l l'=>
    have ha:Ev n env x (aE l):=m4 ea
    have hb:Ev n env y (aE l'):=m4 eb
    unfold Ip at h
    split at h<;>first | (cases h;done) | (injection h with h;subst h)
    ·exact Dr ho ha hb
    ·exact BE ho ha hb
    ·exact FQ ho ha hb
    ·exact FR ho ha hb
   ·cases h
  ·cases h
 ·split at h
  ·next e=>injection h with h;subst h;exact xM ho (m4 e)
  ·cases h
 ·split at h
  ·next e=>injection h with h;subst h;exact Dk ho (m4 e)
  ·cases h
 ·split at h
  ·next e=>
   unfold Fj at h
   split at h
   ·next e1 e2=>injection h with h;subst h;exact AN ho (by rw[jU e1];rfl) (jU e2) (m4 e)
   ·cases h
  ·cases h
 ·split at h
  ·next e=>
   unfold Fh at h
   split at h
   ·next e1=>injection h with h;subst h;exact Do ho (jU e1) (m4 e)
   ·next e1=>injection h with h;subst h;exact nK ho (jU e1) (m4 e)
   ·cases h
  ·cases h
 ·cases h
noncomputable def DK (m:Nat):List Oper→kE→List Oper×kE
 | [],env=>([],env)
 | o::rest,env=>match o.guard,o.dst with
  | none,some d=>match qv m env o.op with | some v=>DK m rest ((d,v)::env) | none=>(o::rest,env)
  | _,_=>(o::rest,env)
theorem BQ:∀ {l:List Oper} {env:kE},dm Tryz.prog ro n ops Kn Ke Kr (DK n.n l env).1 (DK n.n l env).2 w→dm Tryz.prog ro n ops Kn Ke Kr l env w
 | [],_,h=>h
 | o::rest,env,h=>by
  unfold DK at h
  split at h
  ·next hg hd=>
   split at h
   ·next e=>exact AH (bA hg) hd (BU rfl e) (BQ h)
   ·exact h
  ·exact h
theorem qu {d:Nat} {l':List Oper} {env':kE} (h:dm Tryz.prog ro n ops Kn Ke Kr l' env' w) (hv:qv n.n env o.op=some v:=by rfl) (hg:o.guard=none:=by rfl) (hd:o.dst=some d:=by rfl) (hr:DK n.n rest ((d,v)::env)=(l',env'):=by rfl):dm Tryz.prog ro n ops Kn Ke Kr (o::rest) env w:=
 AH (bA hg) hd (BU rfl hv) (BQ (by rw[hr];exact h))
noncomputable def DL (m:Nat) (ops:Array Oper) (X:List Nat):Tr→kE→Tr×kE
 | .c (i,.q) rs,env=>match um ops.toList i with
  | some o=>match o.guard,o.dst,X.contains i with
   | none,some d,false=>match qv m env o.op with | some v=>DL m ops X rs ((d,v)::env) | none=>(.c (i,.q) rs,env)
   | _,_,_=>(.c (i,.q) rs,env)
  | none=>(.c (i,.q) rs,env)
 | T,env=>(T,env)
theorem BR {S:Sn} :∀ {T:Tr} {env:kE},db Tryz.prog ro n ops Kn Ke Kr S (DL n.n ops S.x T env).1 (DL n.n ops S.x T env).2 w→db Tryz.prog ro n ops Kn Ke Kr S T env w
 | .c (i,.q) rs,env,h=>by
  unfold DL at h
  split at h
  ·next o e=>
   split at h
   ·next hg hd hx=>
    split at h
    ·next e2=>exact l6 (mK e) (bA hg) hd (fun w'=>BU rfl e2) (BR h) hx
    ·exact h
   ·exact h
  ·exact h
 | .c (i,.s) rs,env,h=>h
 | .c (i,.t) rs,env,h=>h
 | .n,env,h=>h
 | .two ..,env,h=>h
 | .three ..,env,h=>h
 | .four ..,env,h=>h
theorem qa {S:Sn} {i d:Nat} {rs T':Tr} {env':kE} (h:db Tryz.prog ro n ops Kn Ke Kr S T' env' w) (hi:um ops.toList i=some o:=by rfl) (hv:qv n.n env o.op=some v:=by rfl) (hg:o.guard=none:=by rfl) (hd:o.dst=some d:=by rfl) (hx:S.x.contains i=false:=by rfl) (hr:DL n.n ops S.x rs ((d,v)::env)=(T',env'):=by rfl):db Tryz.prog ro n ops Kn Ke Kr S (.c (i,.q) rs) env w:=
 l6 (mK hi) (bA hg) hd (fun w'=>BU rfl hv) (BR (by rw[hr];exact h)) hx
noncomputable def CH:Op→Option (Operand×Bool)
 | .load t x=>match yf t with
  | some (.struct _)=>some (x,true)
  | some (.array _ _)=>some (x,true)
  | some _=>some (x,false)
  | none=>none
 | _=>none
noncomputable def ldsz:Op→Option Nat
 | .load t _=>Da t
 | _=>none
theorem BF {ad:Addr} (hk:CH o.op=some (x,false)) (hx:Ev n env x (.pointer (some ad))) (hc:CellsAt w ad [v]):hH Tryz.prog n env o v w:=by
 unfold CH at hk
 split at hk
 ·next t y e=>
  split at hk
  ·cases hk
  ·cases hk
  ·next d h1 h2 h3=>
   injection hk with hk;injection hk with hk _;subst hk
   exact bo e hx (jU h3) (by cases d<;>first | rfl | exact absurd rfl (h1 _) | exact absurd rfl (h2 _ _)) hc
  ·cases hk
 ·cases hk
theorem HJ {ad:Addr} {l:List Value} (hk:CH o.op=some (x,true)) (hx:Ev n env x (.pointer (some ad))) (hc:CellsAt w ad l) (hs:ldsz o.op=some l.length):hH Tryz.prog n env o (.agg l.toArray) w:=by
 unfold CH at hk
 split at hk
 ·next t y e=>
  have hs:(Tryz.prog.info? t).map (·.size)=some l.length:=by rw[e]at hs;exact pR hs
  split at hk
  ·next e2=>injection hk with hk;injection hk with hk _;subst hk;exact am e hx (jU e2) rfl hs hc
  ·next e2=>injection hk with hk;injection hk with hk _;subst hk;exact am e hx (jU e2) rfl hs hc
  ·next h1 h2 h3=>injection hk with hk;injection hk with _ hk;cases hk
  ·cases hk
 ·cases hk
theorem y8 {b:Nat} {t:TypeId} {cs:Array Value} (h:Blk w b t cs):CellsAt w ⟨b,0,none⟩ cs.toList:=CellsAt.of_blk h (by rw[List.drop_zero];exact List.take_length)
def Fk:Op→Nat
 | .move _=>1
 | .assign _=>1
 | .fieldAddr _ _ _=>2
 | .nilCheck _=>2
 | .pick _ _ _=>3
 | .binOp _ _ _ _ _=>4
 | .unOp _ _ _=>5
 | .convert _ _ _=>5
 | .extract _ _=>5
 | .call ⟨.builtin .len,_,_⟩=>5
 | _=>0
section
variable {y:Operand} {t e:TypeId} {ad:Addr} {p:Int} {k:IntKind} {a:Value}
theorem HE {i:Nat} (ho:o.op= .fieldAddr t x i) (hx:Ev n env x (.pointer (some ad))) (h:Fi ad i (yf t)=some v):hH Tryz.prog n env o v w:=by
 unfold Fi at h
 split at h
 ·next e1=>
  split at h
  ·next e2=>
   split at h
   ·next e3=>injection h with h;subst h;exact aN ho hx (jU e1) (by rw[List.getElem?_toArray];exact v7 e2) (pR e3) rfl
   ·cases h
  ·cases h
 ·cases h
theorem FO {A:Option Addr} {m c s:Nat} (ho:o.op= .indexAddr t x y) (ht:yf t=some (.slice e)) (hs:Da e=some s) (hx:Ev n env x (.slice A m c)) (hy:Ev n env y (.int k p)) (h0:0≤p∧p<m) (hA:A=some ad):hH Tryz.prog n env o (.pointer (some (ad.add (p.toNat * s)))) w:=iW ho (jU ht) (pR hs) hx hy h0 hA
theorem FN {l:List UInt8} {b:Int} (ho:o.op= .index t x y) (ht:yf t=some .string) (hx:Ev n env x (aE l)) (hy:Ev n env y (.int k p)) (h:Vc.sat l p=some b):hH Tryz.prog n env o (.int .u8 b) w:=Di ho (jU ht) hx hy h
theorem BD {l s:List UInt8} (ho:o.op= .slice t x (some y) none none) (ht:yf t=some .string) (hx:Ev n env x (aE l)) (hy:Ev n env y (.int k p)) (h:i7 l p=some s):hH Tryz.prog n env o (aE s) w:=EZ ho (jU ht) hx hy h
theorem BC {l s:List UInt8} (ho:o.op= .slice t x none (some y) none) (ht:yf t=some .string) (hx:Ev n env x (aE l)) (hy:Ev n env y (.int k p)) (h:ox l p=some s):hH Tryz.prog n env o (aE s) w:=EY ho (jU ht) hx hy h
theorem HD (ho:o.op= .call ⟨.builtin .len,⟨[x]⟩,⟨[t]⟩⟩) (hx:Ev n env x a) (h:Fh (yf t) a=some v):hH Tryz.prog n env o v w:=by
 unfold Fh at h
 split at h
 ·next e1=>injection h with h;subst h;exact Do ho (jU e1) hx
 ·next e1=>injection h with h;subst h;exact nK ho (jU e1) hx
 ·cases h
theorem Gm {t':TypeId} (ho:o.op= .convert t t' x) (hx:Ev n env x a) (h:Fj (yf t) (yf t') a=some v):hH Tryz.prog n env o v w:=by
 unfold Fj at h
 split at h
 ·next e1 e2=>injection h with h;subst h;exact AN ho (by rw[jU e1];rfl) (jU e2) hx
 ·cases h
end
structure Wr (p:Prop):Prop where
 out:p
theorem EV (h:Ev n env x v:=by first | exact et | exact ao | exact aQ et hc):Ev n env x v:=h
section
variable {t j:Nat} {b c:Bool}
theorem gT (hg:o.guard=some (j,true)) (hj:(um ops.toList j).bind (·.dst)=some t) (hl:look env t=some (.bool b)) (ht:Nat.blt t n.n=true):nC n env ops o b:=aT hg (vg hj) hl ht
theorem gF (hg:o.guard=some (j,false)) (hj:(um ops.toList j).bind (·.dst)=some t) (hl:look env t=some (.bool b)) (ht:Nat.blt t n.n=true):nC n env ops o (!b):=cq hg (vg hj) hl ht
theorem gT2 (hg:o.guard=some (j,true)) (hj:(um ops.toList j).bind (·.dst)=some t) (hl:look env t=some (gv c (.bool b))) (ht:Nat.blt t n.n=true):nC n env ops o (c&&b):=iy hg (vg hj) hl ht
theorem gF2 (hg:o.guard=some (j,false)) (hj:(um ops.toList j).bind (·.dst)=some t) (hl:look env t=some (gv c (.bool b))) (ht:Nat.blt t n.n=true):nC n env ops o (c&& !b):=gP hg (vg hj) hl ht
end
theorem EG (h:Ev n env x v:=by first | exact aQ et hc | exact et | exact ao):Ev n env x v:=h
theorem GD (h:nC n env ops o c:=by first | exact gT rfl rfl rfl rfl | exact gF rfl rfl rfl rfl | exact gT2 rfl rfl rfl rfl | exact gF2 rfl rfl rfl rfl):nC n env ops o c:=h
theorem PO {os:List MO} {m:MO} {f:MO→List MO} (h:At os m f:=by repeat (first | with_reducible exact At.z | apply At.s)):At os m f:=h
theorem IN {L:List Cl} {a:Cl} (h:In L a:=by repeat (first | with_reducible exact In.z | refine In.s ?_)):In L a:=h
theorem RM {os os':List MO} {m:MO} (h:Rm os m os':=by repeat (first | with_reducible exact Rm.z | apply Rm.s)):Rm os m os':=h
theorem GO {os os':List MO} (h:EU os os':=by repeat (first | exact EU.n | refine EU.c RM ?_)):EU os os':=h
theorem SU {L L':List Cl} (h:Subs L L':=by repeat (first | exact trivial | refine⟨IN,?_⟩)):Subs L L':=h
theorem SB {e:kE} (h:Sub e env:=by repeat (first | exact trivial | refine⟨rfl,?_⟩)):Sub e env:=h
theorem qb {p q:Prop} (h:p→q) (hp:p):q:=h hp
theorem CA.now {D:NP} {ad:Addr} {l:List Value} (h:CA D w ad l):CellsAt w ad l:=h.1
theorem LD {ad:Addr} {l:List Value} (h:CellsAt w ad l:=by first
 | exact CellsAt.of_blk (hI.blk PO) (by rfl)
 | exact CA.now (by assumption)
 | exact(CA.part (by assumption) (by rfl)).1
 | exact(hI.kblk IN (by rfl)).1
 | exact CA.now (qb (by assumption) hc)
 | exact(CA.part (qb (by assumption) hc) (by rfl)).1):CellsAt w ad l:=h
theorem LA {ad:Addr} {l:List Value} (h:CellsAt w ad l:=by first
 | exact y8 (hI.blk PO)
 | exact CA.now (by assumption)):CellsAt w ad l:=h
theorem LX {ad:Addr} {l:List Value} (h:CellsAt w ad l:=by first
 | exact(CA.blk (hI.blk PO) (by rfl)).at_ (SX.any rfl hw')
 | exact CA.at_ (by assumption) (SX.any rfl hw')
 | exact(CA.part (by assumption) (by rfl)).at_ (SX.any rfl hw')
 | exact(hI.kblk IN (by rfl)).at_ (SX.any rfl hw')
 | exact CA.at_ (qb (by assumption) hc) (SX.any rfl hw')
 | exact(CA.part (qb (by assumption) hc) (by rfl)).at_ (SX.any rfl hw')
 | exact CA.at_ (by assumption) hw'
 | exact(CA.part (by assumption) (by rfl)).at_ hw'
 | exact(hI.kblk IN (by rfl)).at_ hw'):CellsAt w ad l:=h
theorem YM (h:hH Tryz.prog n env o v w:=by first | exact rG rfl et et | exact ya rfl et et):hH Tryz.prog n env o v w:=h
theorem YI (h:hH Tryz.prog n env o v w:=by first
 | exact FO rfl (by rfl) (by rfl) EV EV (oI (by assumption)) (by assumption)
 | exact FN rfl (by rfl) EV EV (by assumption)
 | exact BD rfl (by rfl) EV EV (by assumption)
 | exact BC rfl (by rfl) EV EV (by assumption)):hH Tryz.prog n env o v w:=h
theorem Y1 (hk:Fk o.op=1:=by rfl) (h:hH Tryz.prog n env o v w:=by first
 | exact ft rfl (aQ et hc) | exact ft rfl et | exact ft rfl ao
 | exact cy rfl (aQ et hc) | exact cy rfl et | exact cy rfl ao):hH Tryz.prog n env o v w:=h
theorem Y2 (hk:Fk o.op=2:=by rfl) (h:hH Tryz.prog n env o v w:=by first
 | exact HE rfl EV (by rfl)
 | exact nI rfl EV):hH Tryz.prog n env o v w:=h
theorem Y3 (hk:Fk o.op=3:=by rfl) (h:hH Tryz.prog n env o v w:=by first
 | exact vq rfl hc et et | exact zn rfl hc et et | exact rG rfl et et | exact ya rfl et et):hH Tryz.prog n env o v w:=h
theorem Y4 (hk:Fk o.op=4:=by rfl) (h:hH Tryz.prog n env o v w:=by first
 | exact zp rfl EV EV | exact ow rfl EV EV | exact qE rfl EV EV | exact rF rfl EV EV | exact Dq rfl EV EV | exact Dn rfl EV EV
 | exact Dr rfl EV EV | exact BE rfl EV EV
 | exact qo rfl EV EV | exact uc rfl EV EV | exact ud rfl EV EV
 | exact FQ rfl EV EV | exact FR rfl EV EV):hH Tryz.prog n env o v w:=h
theorem Y5 (hk:Fk o.op=5:=by rfl) (h:hH Tryz.prog n env o v w:=by first
 | exact xM rfl EV
 | exact HD rfl EG (by rfl)
 | exact eW rfl EV rfl | exact Dk rfl EV
 | exact Gm rfl EG (by rfl)):hH Tryz.prog n env o v w:=h
theorem YJ (h:hH Tryz.prog n env o v w:=by first
 | exact FO rfl (by rfl) (by rfl) EV EV (oI (qb (by assumption) hc)) (And.left (qb (by assumption) hc))
 | exact FN rfl (by rfl) EV EV (qb (by assumption) hc)
 | exact BD rfl (by rfl) EV EV (qb (by assumption) hc)
 | exact BC rfl (by rfl) EV EV (qb (by assumption) hc)):hH Tryz.prog n env o v w:=h
theorem Y (h:hH Tryz.prog n env o v w:=by first | exact Y1 | exact Y4 | exact Y2 | exact Y5 | exact Y3):hH Tryz.prog n env o v w:=h
theorem sG {d:Nat} (h:dm Tryz.prog ro n ops Kn Ke Kr rest ((d,gv c v)::env) w) (hi:o.guard.isSome=true:=by rfl) (hl:(Nat.blt 0 (Fk o.op))=true:=by rfl) (hg:nC n env ops o c:=by first | exact gT rfl rfl rfl rfl | exact gF rfl rfl rfl rfl | exact gT2 rfl rfl rfl rfl | exact gF2 rfl rfl rfl rfl) (hd:o.dst=some d:=by rfl) (hr:c=true→hH Tryz.prog n env o v w:=by exact fun hc=>Y):dm Tryz.prog ro n ops Kn Ke Kr (o::rest) env w:=az hg hd hr h
theorem sGL {d:Nat} {x:Operand} (h:dm Tryz.prog ro n ops Kn Ke Kr rest ((d,gv c v)::env) w) (hi:o.guard.isSome=true:=by rfl) (hl:CH o.op=some (x,false):=by rfl) (hg:nC n env ops o c:=by first | exact gT rfl rfl rfl rfl | exact gF rfl rfl rfl rfl | exact gT2 rfl rfl rfl rfl | exact gF2 rfl rfl rfl rfl) (hd:o.dst=some d:=by rfl) (hr:c=true→hH Tryz.prog n env o v w:=by exact fun hc=>BF (by rfl) EV LD):dm Tryz.prog ro n ops Kn Ke Kr (o::rest) env w:=az hg hd hr h
theorem sM {d:Nat} (h:dm Tryz.prog ro n ops Kn Ke Kr rest ((d,v)::env) w) (hg:o.guard=none:=by rfl) (hl:Fk o.op=3:=by rfl) (hd:o.dst=some d:=by rfl) (hr:hH Tryz.prog n env o v w:=by exact YM):dm Tryz.prog ro n ops Kn Ke Kr (o::rest) env w:=sq hr h hg hd
theorem sI {d:Nat} (h:dm Tryz.prog ro n ops Kn Ke Kr rest ((d,v)::env) w) (hg:o.guard=none:=by rfl) (hd:o.dst=some d:=by rfl) (hr:hH Tryz.prog n env o v w:=by exact YI):dm Tryz.prog ro n ops Kn Ke Kr (o::rest) env w:=sq hr h hg hd
theorem sJ {d:Nat} (h:dm Tryz.prog ro n ops Kn Ke Kr rest ((d,gv c v)::env) w) (hg:nC n env ops o c:=by exact GD) (hd:o.dst=some d:=by rfl) (hr:c=true→hH Tryz.prog n env o v w:=by exact fun hc=>YJ):dm Tryz.prog ro n ops Kn Ke Kr (o::rest) env w:=az hg hd hr h
theorem sL {d:Nat} {x:Operand} (h:dm Tryz.prog ro n ops Kn Ke Kr rest ((d,v)::env) w) (hl:CH o.op=some (x,false):=by rfl) (hg:o.guard=none:=by rfl) (hd:o.dst=some d:=by rfl) (hr:hH Tryz.prog n env o v w:=by exact BF (by rfl) EV LD):dm Tryz.prog ro n ops Kn Ke Kr (o::rest) env w:=sq hr h hg hd
theorem sN {d:Nat} {x:Operand} (h:dm Tryz.prog ro n ops Kn Ke Kr rest ((d,v)::env) w) (hl:CH o.op=some (x,true):=by rfl) (hg:o.guard=none:=by rfl) (hd:o.dst=some d:=by rfl) (hr:hH Tryz.prog n env o v w:=by exact HJ (by rfl) EV LA (by rfl)):dm Tryz.prog ro n ops Kn Ke Kr (o::rest) env w:=sq hr h hg hd
section
variable {S:Sn} {i d:Nat} {rs:Tr}
theorem vM (h:db Tryz.prog ro n ops Kn Ke Kr S rs ((d,v)::env) w) (hi:um ops.toList i=some o:=by rfl) (hg:o.guard=none:=by rfl) (hl:Fk o.op=3:=by rfl) (hd:o.dst=some d:=by rfl) (hr:∀ w',hH Tryz.prog n env o v w':=by exact fun w'=>YM) (hx:S.x.contains i=false:=by rfl):db Tryz.prog ro n ops Kn Ke Kr S (.c (i,.q) rs) env w:=l6 (mK hi) (bA hg) hd hr h hx
theorem vI (h:db Tryz.prog ro n ops Kn Ke Kr S rs ((d,v)::env) w) (hi:um ops.toList i=some o:=by rfl) (hg:o.guard=none:=by rfl) (hd:o.dst=some d:=by rfl) (hr:∀ w',hH Tryz.prog n env o v w':=by exact fun w'=>YI) (hx:S.x.contains i=false:=by rfl):db Tryz.prog ro n ops Kn Ke Kr S (.c (i,.q) rs) env w:=l6 (mK hi) (bA hg) hd hr h hx
theorem vJ (h:db Tryz.prog ro n ops Kn Ke Kr S rs ((d,gv c v)::env) w) (hi:um ops.toList i=some o:=by rfl) (hg:nC n env ops o c:=by exact GD) (hd:o.dst=some d:=by rfl) (hr:c=true→∀ w',hH Tryz.prog n env o v w':=by exact fun hc w'=>YJ) (hx:S.x.contains i=false:=by rfl):db Tryz.prog ro n ops Kn Ke Kr S (.c (i,.q) rs) env w:=oV (mK hi) hg hd hr h hx
theorem vG (h:db Tryz.prog ro n ops Kn Ke Kr S rs ((d,gv c v)::env) w) (hi:um ops.toList i=some o:=by rfl) (hs:o.guard.isSome=true:=by rfl) (hl:(Nat.blt 0 (Fk o.op))=true:=by rfl) (hg:nC n env ops o c:=by exact GD) (hd:o.dst=some d:=by rfl) (hr:c=true→∀ w',hH Tryz.prog n env o v w':=by exact fun hc w'=>Y) (hx:S.x.contains i=false:=by rfl):db Tryz.prog ro n ops Kn Ke Kr S (.c (i,.q) rs) env w:=oV (mK hi) hg hd hr h hx
theorem vL {x:Operand} (h:db Tryz.prog ro n ops Kn Ke Kr S rs ((d,v)::env) w) (hi:um ops.toList i=some o:=by rfl) (hl:CH o.op=some (x,false):=by rfl) (hg:o.guard=none:=by rfl) (hd:o.dst=some d:=by rfl) (hr:∀ w',S.now w'→hH Tryz.prog n env o v w':=by exact fun w' hw'=>BF (by rfl) EV LX) (hw:yd ops S.x rs i=true:=by kernel_rfl):db Tryz.prog ro n ops Kn Ke Kr S (.c (i,.q) rs) env w:=ct (mK hi) (bA hg) hd hr hw h
theorem vGL {x:Operand} (h:db Tryz.prog ro n ops Kn Ke Kr S rs ((d,gv c v)::env) w) (hi:um ops.toList i=some o:=by rfl) (hl:CH o.op=some (x,false):=by rfl) (hs:o.guard.isSome=true:=by rfl) (hg:nC n env ops o c:=by exact GD) (hd:o.dst=some d:=by rfl) (hr:c=true→∀ w',S.now w'→hH Tryz.prog n env o v w':=by exact fun hc w' hw'=>BF (by rfl) EV LX) (hw:yd ops S.x rs i=true:=by kernel_rfl):db Tryz.prog ro n ops Kn Ke Kr S (.c (i,.q) rs) env w:=vn (mK hi) hg hd hr hw h
end
theorem T {G' G:Prop} (h:G') (t:Wr G'→G:=by
 intro h_
 (repeat (first
  | refine qu ?_
  | refine sr ?_
  | refine nk ?_
  | refine sL ?_
  | refine sG ?_
  | refine sM ?_
  | refine sGL ?_
  | refine sN ?_
  | refine oE ?_
  | refine bf (bb ?_)
  | refine kz rfl ?_))
 exact h_.out):G:=t ⟨h⟩
theorem V {G' G:Prop} (h:G') (t:Wr G'→G:=by
 intro h_
 (repeat (first
  | refine qa ?_
  | refine vL ?_
  | refine vG ?_
  | refine vGL ?_
  | refine vM ?_
  | refine oq (bb ?_)))
 exact h_.out):G:=t ⟨h⟩
end
end Go.Vc
