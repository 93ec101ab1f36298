import Derived.Test.YtmhoikfoogemnaaGreatDoorGXc
namespace Go.Vc
open Go Go.RowKit Go.Proofs
set_option linter.unusedVariables false
set_option maxRecDepth 100000
noncomputable def tyC:List (List TypeInfo):=[[Tryz.t0,Tryz.t1,Tryz.t2,Tryz.t3,Tryz.t4,Tryz.t5,Tryz.t6,Tryz.t7,Tryz.t8,Tryz.t9,Tryz.t10,Tryz.t11,Tryz.t12,Tryz.t13,Tryz.t14,Tryz.t15],[Tryz.t16,Tryz.t17,Tryz.t18,Tryz.t19,Tryz.t20,Tryz.t21,Tryz.t22,Tryz.t23,Tryz.t24,Tryz.t25,Tryz.t26,Tryz.t27,Tryz.t28,Tryz.t29,Tryz.t30,Tryz.t31],[Tryz.t32,Tryz.t33,Tryz.t34,Tryz.t35,Tryz.t36,Tryz.t37,Tryz.t38,Tryz.t39,Tryz.t40,Tryz.t41,Tryz.t42,Tryz.t43,Tryz.t44,Tryz.t45,Tryz.t46,Tryz.t47],[Tryz.t48,Tryz.t49,Tryz.t50,Tryz.t51,Tryz.t52,Tryz.t53,Tryz.t54,Tryz.t55,Tryz.t56,Tryz.t57,Tryz.t58,Tryz.t59,Tryz.t60,Tryz.t61,Tryz.t62,Tryz.t63],[Tryz.t64,Tryz.t65,Tryz.t66,Tryz.t67,Tryz.t68,Tryz.t69,Tryz.t70,Tryz.t71,Tryz.t72,Tryz.t73,Tryz.t74,Tryz.t75,Tryz.t76,Tryz.t77,Tryz.t78,Tryz.t79],[Tryz.t80,Tryz.t81,Tryz.t82,Tryz.t83,Tryz.t84,Tryz.t85,Tryz.t86,Tryz.t87,Tryz.t88,Tryz.t89,Tryz.t90,Tryz.t91,Tryz.t92,Tryz.t93,Tryz.t94,Tryz.t95],[Tryz.t96,Tryz.t97,Tryz.t98,Tryz.t99,Tryz.t100,Tryz.t101,Tryz.t102,Tryz.t103,Tryz.t104,Tryz.t105,Tryz.t106,Tryz.t107,Tryz.t108,Tryz.t109,Tryz.t110,Tryz.t111],[Tryz.t112,Tryz.t113,Tryz.t114,Tryz.t115,Tryz.t116,Tryz.t117,Tryz.t118,Tryz.t119,Tryz.t120,Tryz.t121,Tryz.t122,Tryz.t123,Tryz.t124,Tryz.t125,Tryz.t126,Tryz.t127],[Tryz.t128,Tryz.t129,Tryz.t130,Tryz.t131,Tryz.t132,Tryz.t133,Tryz.t134,Tryz.t135,Tryz.t136,Tryz.t137,Tryz.t138,Tryz.t139,Tryz.t140,Tryz.t141,Tryz.t142,Tryz.t143],[Tryz.t144,Tryz.t145,Tryz.t146,Tryz.t147,Tryz.t148,Tryz.t149,Tryz.t150,Tryz.t151,Tryz.t152,Tryz.t153,Tryz.t154,Tryz.t155,Tryz.t156,Tryz.t157,Tryz.t158,Tryz.t159],[Tryz.t160,Tryz.t161,Tryz.t162,Tryz.t163,Tryz.t164,Tryz.t165,Tryz.t166,Tryz.t167,Tryz.t168,Tryz.t169,Tryz.t170,Tryz.t171,Tryz.t172,Tryz.t173,Tryz.t174,Tryz.t175],[Tryz.t176,Tryz.t177,Tryz.t178,Tryz.t179,Tryz.t180,Tryz.t181,Tryz.t182,Tryz.t183,Tryz.t184,Tryz.t185,Tryz.t186,Tryz.t187,Tryz.t188,Tryz.t189,Tryz.t190,Tryz.t191],[Tryz.t192,Tryz.t193,Tryz.t194,Tryz.t195,Tryz.t196,Tryz.t197,Tryz.t198,Tryz.t199,Tryz.t200,Tryz.t201,Tryz.t202,Tryz.t203,Tryz.t204,Tryz.t205,Tryz.t206,Tryz.t207],[Tryz.t208,Tryz.t209,Tryz.t210,Tryz.t211,Tryz.t212,Tryz.t213,Tryz.t214,Tryz.t215,Tryz.t216,Tryz.t217,Tryz.t218,Tryz.t219,Tryz.t220,Tryz.t221,Tryz.t222,Tryz.t223],[Tryz.t224,Tryz.t225,Tryz.t226,Tryz.t227,Tryz.t228,Tryz.t229,Tryz.t230,Tryz.t231,Tryz.t232,Tryz.t233,Tryz.t234,Tryz.t235,Tryz.t236,Tryz.t237,Tryz.t238,Tryz.t239]]
def wP {α:Type} :List α→Nat→Option α
 | [],_=>none
 | x:: _,0=>some x
 | _ ::r,n+1=>wP r n
noncomputable def HO (t:Nat):Option TypeInfo:=match wP tyC (t / 16)with | some l=>wP l (t % 16) | none=>none
def TyL:Nat→List TypeInfo→Prop
 | _,[]=>True
 | k,i::r=>Tryz.prog.info? k=some i∧TyL (k+1) r
def TyA:Nat→List (List TypeInfo)→Prop
 | _,[]=>True
 | k,l::r=>TyL (k * 16) l∧TyA (k+1) r
theorem ty_0:TyL 0 [Tryz.t0,Tryz.t1,Tryz.t2,Tryz.t3,Tryz.t4,Tryz.t5,Tryz.t6,Tryz.t7,Tryz.t8,Tryz.t9,Tryz.t10,Tryz.t11,Tryz.t12,Tryz.t13,Tryz.t14,Tryz.t15]:=⟨by kernel_rfl,by kernel_rfl,by kernel_rfl,by kernel_rfl,by kernel_rfl,by kernel_rfl,by kernel_rfl,by kernel_rfl,by kernel_rfl,by kernel_rfl,by kernel_rfl,by kernel_rfl,by kernel_rfl,by kernel_rfl,by kernel_rfl,by kernel_rfl,ah⟩
theorem ty_1:TyL 16 [Tryz.t16,Tryz.t17,Tryz.t18,Tryz.t19,Tryz.t20,Tryz.t21,Tryz.t22,Tryz.t23,Tryz.t24,Tryz.t25,Tryz.t26,Tryz.t27,Tryz.t28,Tryz.t29,Tryz.t30,Tryz.t31]:=⟨by kernel_rfl,by kernel_rfl,by kernel_rfl,by kernel_rfl,by kernel_rfl,by kernel_rfl,by kernel_rfl,by kernel_rfl,by kernel_rfl,by kernel_rfl,by kernel_rfl,by kernel_rfl,by kernel_rfl,by kernel_rfl,by kernel_rfl,by kernel_rfl,ah⟩
theorem ty_2:TyL 32 [Tryz.t32,Tryz.t33,Tryz.t34,Tryz.t35,Tryz.t36,Tryz.t37,Tryz.t38,Tryz.t39,Tryz.t40,Tryz.t41,Tryz.t42,Tryz.t43,Tryz.t44,Tryz.t45,Tryz.t46,Tryz.t47]:=⟨by kernel_rfl,by kernel_rfl,by kernel_rfl,by kernel_rfl,by kernel_rfl,by kernel_rfl,by kernel_rfl,by kernel_rfl,by kernel_rfl,by kernel_rfl,by kernel_rfl,by kernel_rfl,by kernel_rfl,by kernel_rfl,by kernel_rfl,by kernel_rfl,ah⟩
theorem ty_3:TyL 48 [Tryz.t48,Tryz.t49,Tryz.t50,Tryz.t51,Tryz.t52,Tryz.t53,Tryz.t54,Tryz.t55,Tryz.t56,Tryz.t57,Tryz.t58,Tryz.t59,Tryz.t60,Tryz.t61,Tryz.t62,Tryz.t63]:=⟨by kernel_rfl,by kernel_rfl,by kernel_rfl,by kernel_rfl,by kernel_rfl,by kernel_rfl,by kernel_rfl,by kernel_rfl,by kernel_rfl,by kernel_rfl,by kernel_rfl,by kernel_rfl,by kernel_rfl,by kernel_rfl,by kernel_rfl,by kernel_rfl,ah⟩
theorem ty_4:TyL 64 [Tryz.t64,Tryz.t65,Tryz.t66,Tryz.t67,Tryz.t68,Tryz.t69,Tryz.t70,Tryz.t71,Tryz.t72,Tryz.t73,Tryz.t74,Tryz.t75,Tryz.t76,Tryz.t77,Tryz.t78,Tryz.t79]:=⟨by kernel_rfl,by kernel_rfl,by kernel_rfl,by kernel_rfl,by kernel_rfl,by kernel_rfl,by kernel_rfl,by kernel_rfl,by kernel_rfl,by kernel_rfl,by kernel_rfl,by kernel_rfl,by kernel_rfl,by kernel_rfl,by kernel_rfl,by kernel_rfl,ah⟩
theorem ty_5:TyL 80 [Tryz.t80,Tryz.t81,Tryz.t82,Tryz.t83,Tryz.t84,Tryz.t85,Tryz.t86,Tryz.t87,Tryz.t88,Tryz.t89,Tryz.t90,Tryz.t91,Tryz.t92,Tryz.t93,Tryz.t94,Tryz.t95]:=⟨by kernel_rfl,by kernel_rfl,by kernel_rfl,by kernel_rfl,by kernel_rfl,by kernel_rfl,by kernel_rfl,by kernel_rfl,by kernel_rfl,by kernel_rfl,by kernel_rfl,by kernel_rfl,by kernel_rfl,by kernel_rfl,by kernel_rfl,by kernel_rfl,ah⟩
theorem ty_6:TyL 96 [Tryz.t96,Tryz.t97,Tryz.t98,Tryz.t99,Tryz.t100,Tryz.t101,Tryz.t102,Tryz.t103,Tryz.t104,Tryz.t105,Tryz.t106,Tryz.t107,Tryz.t108,Tryz.t109,Tryz.t110,Tryz.t111]:=⟨by kernel_rfl,by kernel_rfl,by kernel_rfl,by kernel_rfl,by kernel_rfl,by kernel_rfl,by kernel_rfl,by kernel_rfl,by kernel_rfl,by kernel_rfl,by kernel_rfl,by kernel_rfl,by kernel_rfl,by kernel_rfl,by kernel_rfl,by kernel_rfl,ah⟩
theorem ty_7:TyL 112 [Tryz.t112,Tryz.t113,Tryz.t114,Tryz.t115,Tryz.t116,Tryz.t117,Tryz.t118,Tryz.t119,Tryz.t120,Tryz.t121,Tryz.t122,Tryz.t123,Tryz.t124,Tryz.t125,Tryz.t126,Tryz.t127]:=⟨by kernel_rfl,by kernel_rfl,by kernel_rfl,by kernel_rfl,by kernel_rfl,by kernel_rfl,by kernel_rfl,by kernel_rfl,by kernel_rfl,by kernel_rfl,by kernel_rfl,by kernel_rfl,by kernel_rfl,by kernel_rfl,by kernel_rfl,by kernel_rfl,ah⟩
theorem ty_8:TyL 128 [Tryz.t128,Tryz.t129,Tryz.t130,Tryz.t131,Tryz.t132,Tryz.t133,Tryz.t134,Tryz.t135,Tryz.t136,Tryz.t137,Tryz.t138,Tryz.t139,Tryz.t140,Tryz.t141,Tryz.t142,Tryz.t143]:=⟨by kernel_rfl,by kernel_rfl,by kernel_rfl,by kernel_rfl,by kernel_rfl,by kernel_rfl,by kernel_rfl,by kernel_rfl,by kernel_rfl,by kernel_rfl,by kernel_rfl,by kernel_rfl,by kernel_rfl,by kernel_rfl,by kernel_rfl,by kernel_rfl,ah⟩
theorem ty_9:TyL 144 [Tryz.t144,Tryz.t145,Tryz.t146,Tryz.t147,Tryz.t148,Tryz.t149,Tryz.t150,Tryz.t151,Tryz.t152,Tryz.t153,Tryz.t154,Tryz.t155,Tryz.t156,Tryz.t157,Tryz.t158,Tryz.t159]:=⟨by kernel_rfl,by kernel_rfl,by kernel_rfl,by kernel_rfl,by kernel_rfl,by kernel_rfl,by kernel_rfl,by kernel_rfl,by kernel_rfl,by kernel_rfl,by kernel_rfl,by kernel_rfl,by kernel_rfl,by kernel_rfl,by kernel_rfl,by kernel_rfl,ah⟩
theorem K1:TyL 160 [Tryz.t160,Tryz.t161,Tryz.t162,Tryz.t163,Tryz.t164,Tryz.t165,Tryz.t166,Tryz.t167,Tryz.t168,Tryz.t169,Tryz.t170,Tryz.t171,Tryz.t172,Tryz.t173,Tryz.t174,Tryz.t175]:=⟨by kernel_rfl,by kernel_rfl,by kernel_rfl,by kernel_rfl,by kernel_rfl,by kernel_rfl,by kernel_rfl,by kernel_rfl,by kernel_rfl,by kernel_rfl,by kernel_rfl,by kernel_rfl,by kernel_rfl,by kernel_rfl,by kernel_rfl,by kernel_rfl,ah⟩
theorem K0:TyL 176 [Tryz.t176,Tryz.t177,Tryz.t178,Tryz.t179,Tryz.t180,Tryz.t181,Tryz.t182,Tryz.t183,Tryz.t184,Tryz.t185,Tryz.t186,Tryz.t187,Tryz.t188,Tryz.t189,Tryz.t190,Tryz.t191]:=⟨by kernel_rfl,by kernel_rfl,by kernel_rfl,by kernel_rfl,by kernel_rfl,by kernel_rfl,by kernel_rfl,by kernel_rfl,by kernel_rfl,by kernel_rfl,by kernel_rfl,by kernel_rfl,by kernel_rfl,by kernel_rfl,by kernel_rfl,by kernel_rfl,ah⟩
theorem KZ:TyL 192 [Tryz.t192,Tryz.t193,Tryz.t194,Tryz.t195,Tryz.t196,Tryz.t197,Tryz.t198,Tryz.t199,Tryz.t200,Tryz.t201,Tryz.t202,Tryz.t203,Tryz.t204,Tryz.t205,Tryz.t206,Tryz.t207]:=⟨by kernel_rfl,by kernel_rfl,by kernel_rfl,by kernel_rfl,by kernel_rfl,by kernel_rfl,by kernel_rfl,by kernel_rfl,by kernel_rfl,by kernel_rfl,by kernel_rfl,by kernel_rfl,by kernel_rfl,by kernel_rfl,by kernel_rfl,by kernel_rfl,ah⟩
theorem KY:TyL 208 [Tryz.t208,Tryz.t209,Tryz.t210,Tryz.t211,Tryz.t212,Tryz.t213,Tryz.t214,Tryz.t215,Tryz.t216,Tryz.t217,Tryz.t218,Tryz.t219,Tryz.t220,Tryz.t221,Tryz.t222,Tryz.t223]:=⟨by kernel_rfl,by kernel_rfl,by kernel_rfl,by kernel_rfl,by kernel_rfl,by kernel_rfl,by kernel_rfl,by kernel_rfl,by kernel_rfl,by kernel_rfl,by kernel_rfl,by kernel_rfl,by kernel_rfl,by kernel_rfl,by kernel_rfl,by kernel_rfl,ah⟩
theorem KX:TyL 224 [Tryz.t224,Tryz.t225,Tryz.t226,Tryz.t227,Tryz.t228,Tryz.t229,Tryz.t230,Tryz.t231,Tryz.t232,Tryz.t233,Tryz.t234,Tryz.t235,Tryz.t236,Tryz.t237,Tryz.t238,Tryz.t239]:=⟨by kernel_rfl,by kernel_rfl,by kernel_rfl,by kernel_rfl,by kernel_rfl,by kernel_rfl,by kernel_rfl,by kernel_rfl,by kernel_rfl,by kernel_rfl,by kernel_rfl,by kernel_rfl,by kernel_rfl,by kernel_rfl,by kernel_rfl,by kernel_rfl,ah⟩
theorem tyA:TyA 0 tyC:=⟨ty_0,ty_1,ty_2,ty_3,ty_4,ty_5,ty_6,ty_7,ty_8,ty_9,K1,K0,KZ,KY,KX,ah⟩
theorem TyL.get:∀ {l:List TypeInfo} {k j:Nat} {i:TypeInfo},TyL k l→wP l j=some i→Tryz.prog.info? (k+j)=some i
 | [],_,_,_,_,h=>by cases h
 | _ :: _,k,0,_,h,e=>by injection e with e;subst e;exact h.1
 | _ ::r,k,j+1,_,h,e=>by have:=TyL.get (l:=r) h.2 e;rw[Nat.add_right_comm]at this;exact this
theorem TyA.get:∀ {l:List (List TypeInfo)} {k j:Nat} {q:List TypeInfo},TyA k l→wP l j=some q→TyL ((k+j) * 16) q
 | [],_,_,_,_,h=>by cases h
 | _ :: _,k,0,_,h,e=>by injection e with e;subst e;exact h.1
 | _ ::r,k,j+1,_,h,e=>by have:=TyA.get (l:=r) h.2 e;rw[Nat.add_right_comm]at this;exact this
theorem Az {t:Nat} {i:TypeInfo} (h:HO t=some i):Tryz.prog.info? t=some i:=by
 unfold HO at h
 split at h
 ·next l e=>
  have:=(tyA.get e).get h
  rwa [Nat.zero_add,Nat.mul_comm,Nat.div_add_mod]at this
 ·cases h
def Ls:TypeInfo→TypeDesc
 | { desc:=d,.. } =>d
def siz:TypeInfo→Nat
 | { size:=z,.. } =>z
theorem Kl (i:TypeInfo):Ls i=i.desc:=by cases i;rfl
theorem Jm (i:TypeInfo):siz i=i.size:=by cases i;rfl
noncomputable def KT:TypeDesc→Option TypeDesc
 | .named _ u=>match HO u with | some i=>some (Ls i) | none=>none
 | d=>some d
noncomputable def Ay (t:Nat):Option TypeDesc:=match HO t with | some i=>KT (Ls i) | none=>none
noncomputable def FY (t:Nat):Option Nat:=match HO t with | some i=>some (siz i) | none=>none
theorem kE {t:Nat} {d:TypeDesc} (h:Ay t=some d):Tryz.prog.underlying t=some d:=by
 unfold Ay at h
 unfold Program.underlying
 cases e:HO t with
 | none=>rw[e]at h;cases h
 | some i=>
  rw[e]at h
  rw[Az e]
  cases i with
  | mk desc=>
   dsimp only[Ls]at h
   cases desc with
   | named q u=>
    unfold KT at h
    dsimp only at h ⊢
    cases e2:HO u with
    | none=>rw[e2]at h;cases h
    | some i2=>rw[e2]at h;rw[Az e2, ← h];show some i2.desc=some (Ls i2);rw[Kl]
   | _=>exact h
theorem rJ {t s:Nat} (h:FY t=some s):(Tryz.prog.info? t).map (·.size)=some s:=by
 unfold FY at h
 cases e:HO t with
 | none=>rw[e]at h;cases h
 | some i=>rw[e]at h;rw[Az e, ← h];show some i.size=some (siz i);rw[Jm]
section
variable {ro:Ro} {n:Fr} {Kn:Act→World→Prop} {Ke:Nat→Act→World→Prop} {Kr:Act→World→Prop} {env:lw} {w:World}
variable {ops:Array Oper} {rest:List Oper} {o:Oper} {v:Value} {x:Operand} {c:Bool}
def Fk (m:Nat) (env:lw):Operand→Option Value
 | .tmp t=>match Nat.blt t m with | true=>look env t | false=>none
 | .const v=>some v
 | .func f=>some (.func (.func f) #[] #[])
 | .global g=>some (.pointer (some ⟨g,0,none⟩))
theorem om (h:Fk n.n env x=some v):Ev n env x v:=by
 cases x with
 | tmp t=>
  unfold Fk at h;dsimp only at h
  cases hb:Nat.blt t n.n with
  | true=>rw[hb]at h;exact aR h hb
  | false=>rw[hb]at h;cases h
 | const u=>injection h with h;subst h;exact ao
 | func f=>injection h with h;subst h;exact EU
 | global g=>injection h with h;subst h;exact FK
def Ly (k:IntKind) (p q:Int):BinOp→Option Value
 | .add=>some (.int k (k.wrap (p+q)))
 | .sub=>some (.int k (k.wrap (p - q)))
 | .mul=>some (.int k (k.wrap (p * q)))
 | .eql=>some (.bool (decide (p=q)))
 | .neq=>some (.bool (!decide (p=q)))
 | .lss=>some (.bool (decide (p<q)))
 | .leq=>some (.bool (decide (p≤q)))
 | .gtr=>some (.bool (decide (q<p)))
 | .geq=>some (.bool (decide (q≤p)))
 | _=>none
def Lx (l l':List UInt8):BinOp→Option Value
 | .eql=>some (.bool (decide (l=l')))
 | .neq=>some (.bool (!decide (l=l')))
 | .lss=>some (.bool (Op.bytesLess l l'))
 | .geq=>some (.bool (!Op.bytesLess l l'))
 | _=>none
def K6 (bop:BinOp):Value→Value→Option Value
 | .int k p,.int k' q=>match decide (k=k')with | true=>Ly k p q bop | false=>none
 | .string ⟨⟨l⟩⟩,.string ⟨⟨l'⟩⟩=>Lx l l' bop
 | _,_=>none
theorem yl {α:Type} :∀ {l:List α} {i:Nat} {x:α},wP l i=some x→l[i]? =some x
 | [],_,_,h=>by cases h
 | y:: _,0,x,h=>h
 | _ ::r,n+1,x,h=>by rw[List.getElem?_cons_succ];exact yl (l:=r) h
theorem nT {α:Type} {a:Array α} {i:Nat} {x:α} (h:wP a.toList i=some x):a[i]? =some x:=by rw[← Array.getElem?_toList];exact yl h
theorem xH {ops:Array Oper} {j t:Nat} (h:(wP ops.toList j).bind (·.dst)=some t):(ops[j]?).bind (·.dst)=some t:=by
 cases e:wP ops.toList j with
 | none=>rw[e]at h;cases h
 | some y=>rw[e]at h;rw[nT e];exact h
noncomputable def Ie (ad:Addr) (i:Nat):Option TypeDesc→Option Value
 | some (.struct ⟨fs⟩)=>match wP fs i with
  | some ⟨_,t,o,_,_,_,_⟩=>match FY t with | some (_ +1)=>some (.pointer (some (ad.add o))) | _=>none
  | none=>none
 | _=>none
noncomputable def Id:Option TypeDesc→Value→Option Value
 | some .string,.string ⟨⟨l⟩⟩=>some (.int .i64 l.length)
 | some (.slice _),.slice _ m _=>some (.int .i64 m)
 | _,_=>none
noncomputable def Ig:Option TypeDesc→Option TypeDesc→Value→Option Value
 | some _,some (.int k),.int _ p=>some (.int k (k.wrap p))
 | _,_,_=>none
noncomputable def qv (m:Nat) (env:lw):Op→Option Value
 | .move x=>Fk m env x
 | .assign x=>Fk m env x
 | .nilCheck x=>match Fk m env x with | some (.pointer (some ad))=>some (.pointer (some ad)) | _=>none
 | .extract x i=>match Fk m env x with | some (.tuple ⟨vs⟩)=>wP vs i | _=>none
 | .fieldAddr t x i=>match Fk m env x with | some (.pointer (some ad))=>Ie ad i (Ay t) | _=>none
 | .binOp bop _ x y _=>match Fk m env x,Fk m env y with | some a,some b=>K6 bop a b | _,_=>none
 | .unOp .not _ x=>match Fk m env x with | some (.bool b)=>some (.bool (!b)) | _=>none
 | .unOp .neg _ x=>match Fk m env x with | some (.int k p)=>some (.int k (k.wrap (-p))) | _=>none
 | .convert t t' x=>match Fk m env x with | some a=>Ig (Ay t) (Ay t') a | none=>none
 | .call ⟨.builtin .len,⟨[x]⟩,⟨[t]⟩⟩=>match Fk m env x with | some a=>Id (Ay t) a | none=>none
 | _=>none
theorem EB {op:Op} (ho:o.op=op) (h:qv n.n env op=some v):iE Tryz.prog n env o v w:=by
 unfold qv at h
 split at h
 ·exact gp ho (om h)
 ·exact cP ho (om h)
 ·split at h
  ·next e=>injection h with h;subst h;exact nV ho (om e)
  ·cases h
 ·split at h
  ·next e=>exact fO ho (om e) (by rw[List.getElem?_toArray];exact yl h)
  ·cases h
 ·split at h
  ·next e=>
   unfold Ie at h
   split at h
   ·next e1=>
    split at h
    ·next e2=>
     split at h
     ·next e3=>injection h with h;subst h;exact aP ho (om e) (kE e1) (by rw[List.getElem?_toArray];exact yl e2) (rJ e3) rfl
     ·cases h
    ·cases h
   ·cases h
  ·cases h
 ·split at h
  ·next bop t x y t' _ _ a b ea eb=>
   unfold K6 at h
   split at h
   ·next k p k' q=>
    split at h
    ·next ek=>
     have ek:=of_decide_eq_true ek
     subst ek
     unfold Ly at h
     have ha:=om ea;have hb:=om eb
     split at h<;>first | (cases h;done) | (injection h with h;subst h)
     ·exact sv ho ha hb
     ·exact wD ho ha hb
     ·exact wF ho ha hb
     ·exact BW ho ha hb
     ·exact py ho ha hb
     ·exact sX ho ha hb
     ·exact Gd ho ha hb
     ·exact um ho ha hb
     ·exact Gg ho ha hb
    ·cases h
   ·next l l'=>
    have ha:Ev n env x (aT l):=om ea
    have hb:Ev n env y (aT l'):=om eb
    unfold Lx at h
    split at h<;>first | (cases h;done) | (injection h with h;subst h)
    ·exact Gh ho ha hb
    ·exact Ek ho ha hb
    ·exact IK ho ha hb
    ·exact IL ho ha hb
   ·cases h
  ·cases h
 ·split at h
  ·next e=>injection h with h;subst h;exact xL ho (om e)
  ·cases h
 ·split at h
  ·next e=>injection h with h;subst h;exact Ga ho (om e)
  ·cases h
 ·split at h
  ·next e=>
   unfold Ig at h
   split at h
   ·next e1 e2=>injection h with h;subst h;exact Dp ho (by rw[kE e1];rfl) (kE e2) (om e)
   ·cases h
  ·cases h
 ·split at h
  ·next e=>
   unfold Id at h
   split at h
   ·next e1=>injection h with h;subst h;exact Ge ho (kE e1) (om e)
   ·next e1=>injection h with h;subst h;exact oZ ho (kE e1) (om e)
   ·cases h
  ·cases h
 ·cases h
noncomputable def GB (m:Nat):List Oper→lw→List Oper×lw
 | [],env=>([],env)
 | o::rest,env=>match o.guard,o.dst with
  | none,some d=>match qv m env o.op with | some v=>GB m rest ((d,v)::env) | none=>(o::rest,env)
  | _,_=>(o::rest,env)
theorem Ew:∀ {l:List Oper} {env:lw},dM Tryz.prog ro n ops Kn Ke Kr (GB n.n l env).1 (GB n.n l env).2 w→dM Tryz.prog ro n ops Kn Ke Kr l env w
 | [],_,h=>h
 | o::rest,env,h=>by
  unfold GB at h
  split at h
  ·next hg hd=>
   split at h
   ·next e=>exact Dk (bQ hg) hd (EB rfl e) (Ew h)
   ·exact h
  ·exact h
theorem qu {d:Nat} {l':List Oper} {env':lw} (h:dM Tryz.prog ro n ops Kn Ke Kr l' env' w) (hv:qv n.n env o.op=some v:=by rfl) (hg:o.guard=none:=by rfl) (hd:o.dst=some d:=by rfl) (hr:GB n.n rest ((d,v)::env)=(l',env'):=by rfl):dM Tryz.prog ro n ops Kn Ke Kr (o::rest) env w:=
 Dk (bQ hg) hd (EB rfl hv) (Ew (by rw[hr];exact h))
noncomputable def GC (m:Nat) (ops:Array Oper) (X:List Nat):Tr→lw→Tr×lw
 | .c (i,.q) rs,env=>match wP ops.toList i with
  | some o=>match o.guard,o.dst,X.contains i with
   | none,some d,false=>match qv m env o.op with | some v=>GC m ops X rs ((d,v)::env) | none=>(.c (i,.q) rs,env)
   | _,_,_=>(.c (i,.q) rs,env)
  | none=>(.c (i,.q) rs,env)
 | T,env=>(T,env)
theorem Ex {S:Sn} :∀ {T:Tr} {env:lw},dw Tryz.prog ro n ops Kn Ke Kr S (GC n.n ops S.x T env).1 (GC n.n ops S.x T env).2 w→dw Tryz.prog ro n ops Kn Ke Kr S T env w
 | .c (i,.q) rs,env,h=>by
  unfold GC at h
  split at h
  ·next o e=>
   split at h
   ·next hg hd hx=>
    split at h
    ·next e2=>exact nv (nT e) (bQ hg) hd (λw'=>EB rfl e2) (Ex h) hx
    ·exact h
   ·exact h
  ·exact h
 | .c (i,.s) rs,env,h=>h
 | .c (i,.t) rs,env,h=>h
 | .n,env,h=>h
 | .two ..,env,h=>h
 | .three ..,env,h=>h
 | .four ..,env,h=>h
theorem qa {S:Sn} {i d:Nat} {rs T':Tr} {env':lw} (h:dw Tryz.prog ro n ops Kn Ke Kr S T' env' w) (hi:wP ops.toList i=some o:=by rfl) (hv:qv n.n env o.op=some v:=by rfl) (hg:o.guard=none:=by rfl) (hd:o.dst=some d:=by rfl) (hx:S.x.contains i=false:=by rfl) (hr:GC n.n ops S.x rs ((d,v)::env)=(T',env'):=by rfl):dw Tryz.prog ro n ops Kn Ke Kr S (.c (i,.q) rs) env w:=
 nv (nT hi) (bQ hg) hd (λw'=>EB rfl hv) (Ex (by rw[hr];exact h)) hx
noncomputable def Fy:Op→Option (Operand×Bool)
 | .load t x=>match Ay t with
  | some (.struct _)=>some (x,true)
  | some (.array _ _)=>some (x,true)
  | some _=>some (x,false)
  | none=>none
 | _=>none
noncomputable def ldsz:Op→Option Nat
 | .load t _=>FY t
 | _=>none
theorem El {ad:Addr} (hk:Fy o.op=some (x,false)) (hx:Ev n env x (.pointer (some ad))) (hc:CellsAt w ad [v]):iE Tryz.prog n env o v w:=by
 unfold Fy at hk
 split at hk
 ·next t y e=>
  split at hk
  ·cases hk
  ·cases hk
  ·next d h1 h2 h3=>
   injection hk with hk;injection hk with hk _;subst hk
   exact ba e hx (kE h3) (by cases d<;>first | rfl | exact absurd rfl (h1 _) | exact absurd rfl (h2 _ _)) hc
  ·cases hk
 ·cases hk
theorem KN {ad:Addr} {l:List Value} (hk:Fy o.op=some (x,true)) (hx:Ev n env x (.pointer (some ad))) (hc:CellsAt w ad l) (hs:ldsz o.op=some l.length):iE Tryz.prog n env o (.agg l.toArray) w:=by
 unfold Fy at hk
 split at hk
 ·next t y e=>
  have hs:(Tryz.prog.info? t).map (·.size)=some l.length:=by rw[e]at hs;exact rJ hs
  split at hk
  ·next e2=>injection hk with hk;injection hk with hk _;subst hk;exact am e hx (kE e2) rfl hs hc
  ·next e2=>injection hk with hk;injection hk with hk _;subst hk;exact am e hx (kE e2) rfl hs hc
  ·next h1 h2 h3=>injection hk with hk;injection hk with _ hk;cases hk
  ·cases hk
 ·cases hk
theorem BF {b:Nat} {t:TypeId} {cs:Array Value} (h:Blk w b t cs):CellsAt w ⟨b,0,none⟩ cs.toList:=LU h (by rw[List.drop_zero];exact List.take_length)
def Ii:Op→Nat
 | .move _=>1
 | .assign _=>1
 | .fieldAddr _ _ _=>2
 | .nilCheck _=>2
 | .pick _ _ _=>3
 | .binOp _ _ _ _ _=>4
 | .unOp _ _ _=>5
 | .convert _ _ _=>5
 | .extract _ _=>5
 | .call ⟨.builtin .len,_,_⟩=>5
 | _=>0
section
variable {y:Operand} {t e:TypeId} {ad:Addr} {p:Int} {k:IntKind} {a:Value}
theorem KJ {i:Nat} (ho:o.op= .fieldAddr t x i) (hx:Ev n env x (.pointer (some ad))) (h:Ie ad i (Ay t)=some v):iE Tryz.prog n env o v w:=by
 unfold Ie at h
 split at h
 ·next e1=>
  split at h
  ·next e2=>
   split at h
   ·next e3=>injection h with h;subst h;exact aP ho hx (kE e1) (by rw[List.getElem?_toArray];exact yl e2) (rJ e3) rfl
   ·cases h
  ·cases h
 ·cases h
theorem II {A:Option Addr} {m c s:Nat} (ho:o.op= .indexAddr t x y) (ht:Ay t=some (.slice e)) (hs:FY e=some s) (hx:Ev n env x (.slice A m c)) (hy:Ev n env y (.int k p)) (h0:0≤p∧p<m) (hA:A=some ad):iE Tryz.prog n env o (.pointer (some (ad.add (p.toNat * s)))) w:=jz ho (kE ht) (rJ hs) hx hy h0 hA
theorem IH {l:List UInt8} {b:Int} (ho:o.op= .index t x y) (ht:Ay t=some .string) (hx:Ev n env x (aT l)) (hy:Ev n env y (.int k p)) (h:Vc.sat l p=some b):iE Tryz.prog n env o (.int .u8 b) w:=F9 ho (kE ht) hx hy h
theorem Ej {l s:List UInt8} (ho:o.op= .slice t x (some y) none none) (ht:Ay t=some .string) (hx:Ev n env x (aT l)) (hy:Ev n env y (.int k p)) (h:jE l p=some s):iE Tryz.prog n env o (aT s) w:=HX ho (kE ht) hx hy h
theorem Ei {l s:List UInt8} (ho:o.op= .slice t x none (some y) none) (ht:Ay t=some .string) (hx:Ev n env x (aT l)) (hy:Ev n env y (.int k p)) (h:pV l p=some s):iE Tryz.prog n env o (aT s) w:=HW ho (kE ht) hx hy h
theorem KI (ho:o.op= .call ⟨.builtin .len,⟨[x]⟩,⟨[t]⟩⟩) (hx:Ev n env x a) (h:Id (Ay t) a=some v):iE Tryz.prog n env o v w:=by
 unfold Id at h
 split at h
 ·next e1=>injection h with h;subst h;exact Ge ho (kE e1) hx
 ·next e1=>injection h with h;subst h;exact oZ ho (kE e1) hx
 ·cases h
theorem Jc {t':TypeId} (ho:o.op= .convert t t' x) (hx:Ev n env x a) (h:Ig (Ay t) (Ay t') a=some v):iE Tryz.prog n env o v w:=by
 unfold Ig at h
 split at h
 ·next e1 e2=>injection h with h;subst h;exact Dp ho (by rw[kE e1];rfl) (kE e2) hx
 ·cases h
end
structure Wr (p:Prop):Prop where
 out:p
theorem EV (h:Ev n env x v:=by first | exact et | exact ao | exact aU et hc):Ev n env x v:=h
section
variable {t j:Nat} {b c:Bool}
theorem gT (hg:o.guard=some (j,true)) (hj:(wP ops.toList j).bind (·.dst)=some t) (hl:look env t=some (.bool b)) (ht:Nat.blt t n.n=true):oU n env ops o b:=bg hg (xH hj) hl ht
theorem gF (hg:o.guard=some (j,false)) (hj:(wP ops.toList j).bind (·.dst)=some t) (hl:look env t=some (.bool b)) (ht:Nat.blt t n.n=true):oU n env ops o (!b):=bV hg (xH hj) hl ht
theorem gT2 (hg:o.guard=some (j,true)) (hj:(wP ops.toList j).bind (·.dst)=some t) (hl:look env t=some (gv c (.bool b))) (ht:Nat.blt t n.n=true):oU n env ops o (c&&b):=iA hg (xH hj) hl ht
theorem gF2 (hg:o.guard=some (j,false)) (hj:(wP ops.toList j).bind (·.dst)=some t) (hl:look env t=some (gv c (.bool b))) (ht:Nat.blt t n.n=true):oU n env ops o (c&& !b):=iC hg (xH hj) hl ht
end
theorem EG (h:Ev n env x v:=by first | exact aU et hc | exact et | exact ao):Ev n env x v:=h
theorem GD (h:oU n env ops o c:=by first | exact gT rfl rfl rfl rfl | exact gF rfl rfl rfl rfl | exact gT2 rfl rfl rfl rfl | exact gF2 rfl rfl rfl rfl):oU n env ops o c:=h
theorem PO {os:List MO} {m:MO} {f:MO→List MO} (h:At os m f:=by repeat (first | with_reducible exact At.z | apply At.s)):At os m f:=h
theorem IN {L:List Cl} {a:Cl} (h:In L a:=by repeat (first | with_reducible exact In.z | refine In.s ?_)):In L a:=h
theorem RM {os os':List MO} {m:MO} (h:Rm os m os':=by repeat (first | with_reducible exact Rm.z | apply Rm.s)):Rm os m os':=h
theorem GO {os os':List MO} (h:HT os os':=by repeat (first | exact HT.n | refine HT.c RM ?_)):HT os os':=h
theorem SU {L L':List Cl} (h:Subs L L':=by repeat (first | exact trivial | refine⟨IN,?_⟩)):Subs L L':=h
theorem SB {e:lw} (h:Sub e env:=by repeat (first | exact trivial | refine⟨rfl,?_⟩)):Sub e env:=h
theorem rU {p q:Prop} (h:p→q) (hp:p):q:=h hp
theorem CA.now {D:NP} {ad:Addr} {l:List Value} (h:CA D w ad l):CellsAt w ad l:=h.1
theorem LD {ad:Addr} {l:List Value} (h:CellsAt w ad l:=by first
 | exact LU (hI.blk PO) (by rfl)
 | exact CA.now (by assumption)
 | exact(CA.part (by assumption) (by rfl)).1
 | exact(hI.kblk IN (by rfl)).1
 | exact CA.now (rU (by assumption) hc)
 | exact(CA.part (rU (by assumption) hc) (by rfl)).1):CellsAt w ad l:=h
theorem LA {ad:Addr} {l:List Value} (h:CellsAt w ad l:=by first
 | exact BF (hI.blk PO)
 | exact CA.now (by assumption)):CellsAt w ad l:=h
theorem LX {ad:Addr} {l:List Value} (h:CellsAt w ad l:=by first
 | exact(CA.blk (hI.blk PO) (by rfl)).at_ (SX.any rfl hw')
 | exact CA.at_ (by assumption) (SX.any rfl hw')
 | exact(CA.part (by assumption) (by rfl)).at_ (SX.any rfl hw')
 | exact(hI.kblk IN (by rfl)).at_ (SX.any rfl hw')
 | exact CA.at_ (rU (by assumption) hc) (SX.any rfl hw')
 | exact(CA.part (rU (by assumption) hc) (by rfl)).at_ (SX.any rfl hw')
 | exact CA.at_ (by assumption) hw'
 | exact(CA.part (by assumption) (by rfl)).at_ hw'
 | exact(hI.kblk IN (by rfl)).at_ hw'):CellsAt w ad l:=h
theorem YM (h:iE Tryz.prog n env o v w:=by first | exact un rfl et et | exact As rfl et et):iE Tryz.prog n env o v w:=h
theorem YI (h:iE Tryz.prog n env o v w:=by first
 | exact II rfl (by rfl) (by rfl) EV EV (qm (by assumption)) (by assumption)
 | exact IH rfl (by rfl) EV EV (by assumption)
 | exact Ej rfl (by rfl) EV EV (by assumption)
 | exact Ei rfl (by rfl) EV EV (by assumption)):iE Tryz.prog n env o v w:=h
theorem Y1 (hk:Ii o.op=1:=by rfl) (h:iE Tryz.prog n env o v w:=by first
 | exact gp rfl (aU et hc) | exact gp rfl et | exact gp rfl ao
 | exact cP rfl (aU et hc) | exact cP rfl et | exact cP rfl ao):iE Tryz.prog n env o v w:=h
theorem Y2 (hk:Ii o.op=2:=by rfl) (h:iE Tryz.prog n env o v w:=by first
 | exact KJ rfl EV (by rfl)
 | exact nV rfl EV):iE Tryz.prog n env o v w:=h
theorem Y3 (hk:Ii o.op=3:=by rfl) (h:iE Tryz.prog n env o v w:=by first
 | exact xN rfl hc et et | exact BU rfl hc et et | exact un rfl et et | exact As rfl et et):iE Tryz.prog n env o v w:=h
theorem Y4 (hk:Ii o.op=4:=by rfl) (h:iE Tryz.prog n env o v w:=by first
 | exact BW rfl EV EV | exact py rfl EV EV | exact sX rfl EV EV | exact um rfl EV EV | exact Gg rfl EV EV | exact Gd rfl EV EV
 | exact Gh rfl EV EV | exact Ek rfl EV EV
 | exact sv rfl EV EV | exact wD rfl EV EV | exact wF rfl EV EV
 | exact IK rfl EV EV | exact IL rfl EV EV):iE Tryz.prog n env o v w:=h
theorem Y5 (hk:Ii o.op=5:=by rfl) (h:iE Tryz.prog n env o v w:=by first
 | exact xL rfl EV
 | exact KI rfl EG (by rfl)
 | exact fO rfl EV rfl | exact Ga rfl EV
 | exact Jc rfl EG (by rfl)):iE Tryz.prog n env o v w:=h
theorem YJ (h:iE Tryz.prog n env o v w:=by first
 | exact II rfl (by rfl) (by rfl) EV EV (qm (rU (by assumption) hc)) (And.left (rU (by assumption) hc))
 | exact IH rfl (by rfl) EV EV (rU (by assumption) hc)
 | exact Ej rfl (by rfl) EV EV (rU (by assumption) hc)
 | exact Ei rfl (by rfl) EV EV (rU (by assumption) hc)):iE Tryz.prog n env o v w:=h
theorem Y (h:iE Tryz.prog n env o v w:=by first | exact Y1 | exact Y4 | exact Y2 | exact Y5 | exact Y3):iE Tryz.prog n env o v w:=h
theorem sG {d:Nat} (h:dM Tryz.prog ro n ops Kn Ke Kr rest ((d,gv c v)::env) w) (hi:o.guard.isSome=true:=by rfl) (hl:(Nat.blt 0 (Ii o.op))=true:=by rfl) (hg:oU n env ops o c:=by first | exact gT rfl rfl rfl rfl | exact gF rfl rfl rfl rfl | exact gT2 rfl rfl rfl rfl | exact gF2 rfl rfl rfl rfl) (hd:o.dst=some d:=by rfl) (hr:c=true→iE Tryz.prog n env o v w:=by exact λhc=>Y):dM Tryz.prog ro n ops Kn Ke Kr (o::rest) env w:=aH hg hd hr h
theorem sGL {d:Nat} {x:Operand} (h:dM Tryz.prog ro n ops Kn Ke Kr rest ((d,gv c v)::env) w) (hi:o.guard.isSome=true:=by rfl) (hl:Fy o.op=some (x,false):=by rfl) (hg:oU n env ops o c:=by first | exact gT rfl rfl rfl rfl | exact gF rfl rfl rfl rfl | exact gT2 rfl rfl rfl rfl | exact gF2 rfl rfl rfl rfl) (hd:o.dst=some d:=by rfl) (hr:c=true→iE Tryz.prog n env o v w:=by exact λhc=>El (by rfl) EV LD):dM Tryz.prog ro n ops Kn Ke Kr (o::rest) env w:=aH hg hd hr h
theorem sM {d:Nat} (h:dM Tryz.prog ro n ops Kn Ke Kr rest ((d,v)::env) w) (hg:o.guard=none:=by rfl) (hl:Ii o.op=3:=by rfl) (hd:o.dst=some d:=by rfl) (hr:iE Tryz.prog n env o v w:=by exact YM):dM Tryz.prog ro n ops Kn Ke Kr (o::rest) env w:=sq hr h hg hd
theorem sI {d:Nat} (h:dM Tryz.prog ro n ops Kn Ke Kr rest ((d,v)::env) w) (hg:o.guard=none:=by rfl) (hd:o.dst=some d:=by rfl) (hr:iE Tryz.prog n env o v w:=by exact YI):dM Tryz.prog ro n ops Kn Ke Kr (o::rest) env w:=sq hr h hg hd
theorem sJ {d:Nat} (h:dM Tryz.prog ro n ops Kn Ke Kr rest ((d,gv c v)::env) w) (hg:oU n env ops o c:=by exact GD) (hd:o.dst=some d:=by rfl) (hr:c=true→iE Tryz.prog n env o v w:=by exact λhc=>YJ):dM Tryz.prog ro n ops Kn Ke Kr (o::rest) env w:=aH hg hd hr h
theorem sL {d:Nat} {x:Operand} (h:dM Tryz.prog ro n ops Kn Ke Kr rest ((d,v)::env) w) (hl:Fy o.op=some (x,false):=by rfl) (hg:o.guard=none:=by rfl) (hd:o.dst=some d:=by rfl) (hr:iE Tryz.prog n env o v w:=by exact El (by rfl) EV LD):dM Tryz.prog ro n ops Kn Ke Kr (o::rest) env w:=sq hr h hg hd
theorem sN {d:Nat} {x:Operand} (h:dM Tryz.prog ro n ops Kn Ke Kr rest ((d,v)::env) w) (hl:Fy o.op=some (x,true):=by rfl) (hg:o.guard=none:=by rfl) (hd:o.dst=some d:=by rfl) (hr:iE Tryz.prog n env o v w:=by exact KN (by rfl) EV LA (by rfl)):dM Tryz.prog ro n ops Kn Ke Kr (o::rest) env w:=sq hr h hg hd
section
variable {S:Sn} {i d:Nat} {rs:Tr}
theorem vM (h:dw Tryz.prog ro n ops Kn Ke Kr S rs ((d,v)::env) w) (hi:wP ops.toList i=some o:=by rfl) (hg:o.guard=none:=by rfl) (hl:Ii o.op=3:=by rfl) (hd:o.dst=some d:=by rfl) (hr:∀ w',iE Tryz.prog n env o v w':=by exact λw'=>YM) (hx:S.x.contains i=false:=by rfl):dw Tryz.prog ro n ops Kn Ke Kr S (.c (i,.q) rs) env w:=nv (nT hi) (bQ hg) hd hr h hx
theorem vI (h:dw Tryz.prog ro n ops Kn Ke Kr S rs ((d,v)::env) w) (hi:wP ops.toList i=some o:=by rfl) (hg:o.guard=none:=by rfl) (hd:o.dst=some d:=by rfl) (hr:∀ w',iE Tryz.prog n env o v w':=by exact λw'=>YI) (hx:S.x.contains i=false:=by rfl):dw Tryz.prog ro n ops Kn Ke Kr S (.c (i,.q) rs) env w:=nv (nT hi) (bQ hg) hd hr h hx
theorem vJ (h:dw Tryz.prog ro n ops Kn Ke Kr S rs ((d,gv c v)::env) w) (hi:wP ops.toList i=some o:=by rfl) (hg:oU n env ops o c:=by exact GD) (hd:o.dst=some d:=by rfl) (hr:c=true→∀ w',iE Tryz.prog n env o v w':=by exact λhc w'=>YJ) (hx:S.x.contains i=false:=by rfl):dw Tryz.prog ro n ops Kn Ke Kr S (.c (i,.q) rs) env w:=pi (nT hi) hg hd hr h hx
theorem vG (h:dw Tryz.prog ro n ops Kn Ke Kr S rs ((d,gv c v)::env) w) (hi:wP ops.toList i=some o:=by rfl) (hs:o.guard.isSome=true:=by rfl) (hl:(Nat.blt 0 (Ii o.op))=true:=by rfl) (hg:oU n env ops o c:=by exact GD) (hd:o.dst=some d:=by rfl) (hr:c=true→∀ w',iE Tryz.prog n env o v w':=by exact λhc w'=>Y) (hx:S.x.contains i=false:=by rfl):dw Tryz.prog ro n ops Kn Ke Kr S (.c (i,.q) rs) env w:=pi (nT hi) hg hd hr h hx
theorem vL {x:Operand} (h:dw Tryz.prog ro n ops Kn Ke Kr S rs ((d,v)::env) w) (hi:wP ops.toList i=some o:=by rfl) (hl:Fy o.op=some (x,false):=by rfl) (hg:o.guard=none:=by rfl) (hd:o.dst=some d:=by rfl) (hr:∀ w',S.now w'→iE Tryz.prog n env o v w':=by exact λw' hw'=>El (by rfl) EV LX) (hw:Aw ops S.x rs i=true:=by kernel_rfl):dw Tryz.prog ro n ops Kn Ke Kr S (.c (i,.q) rs) env w:=bR (nT hi) (bQ hg) hd hr hw h
theorem vGL {x:Operand} (h:dw Tryz.prog ro n ops Kn Ke Kr S rs ((d,gv c v)::env) w) (hi:wP ops.toList i=some o:=by rfl) (hl:Fy o.op=some (x,false):=by rfl) (hs:o.guard.isSome=true:=by rfl) (hg:oU n env ops o c:=by exact GD) (hd:o.dst=some d:=by rfl) (hr:c=true→∀ w',S.now w'→iE Tryz.prog n env o v w':=by exact λhc w' hw'=>El (by rfl) EV LX) (hw:Aw ops S.x rs i=true:=by kernel_rfl):dw Tryz.prog ro n ops Kn Ke Kr S (.c (i,.q) rs) env w:=px (nT hi) hg hd hr hw h
end
theorem T {G' G:Prop} (h:G') (t:Wr G'→G:=by
 intro h_
 (repeat (first
  | refine qu ?_
  | refine sr ?_
  | refine nk ?_
  | refine sL ?_
  | refine sG ?_
  | refine sM ?_
  | refine sGL ?_
  | refine sN ?_
  | refine oR ?_
  | refine bl (bh ?_)
  | refine jX rfl ?_))
 exact h_.out):G:=t ⟨h⟩
theorem V {G' G:Prop} (h:G') (t:Wr G'→G:=by
 intro h_
 (repeat (first
  | refine qa ?_
  | refine vL ?_
  | refine vG ?_
  | refine vGL ?_
  | refine vM ?_
  | refine oY (bh ?_)))
 exact h_.out):G:=t ⟨h⟩
end
end Go.Vc
