import Derived.Test.YtmhoikfoogemnaaGreatDoorSCg
namespace Go.Vc
open Go Go.RowKit Go.Proofs
set_option linter.unusedVariables false
set_option maxRecDepth 100000
noncomputable def tyC : List (List TypeInfo) := [[Tryz.t0, Tryz.t1, Tryz.t2, Tryz.t3, Tryz.t4, Tryz.t5, Tryz.t6, Tryz.t7, Tryz.t8, Tryz.t9, Tryz.t10, Tryz.t11, Tryz.t12, Tryz.t13, Tryz.t14, Tryz.t15], [Tryz.t16, Tryz.t17, Tryz.t18, Tryz.t19, Tryz.t20, Tryz.t21, Tryz.t22, Tryz.t23, Tryz.t24, Tryz.t25, Tryz.t26, Tryz.t27, Tryz.t28, Tryz.t29, Tryz.t30, Tryz.t31], [Tryz.t32, Tryz.t33, Tryz.t34, Tryz.t35, Tryz.t36, Tryz.t37, Tryz.t38, Tryz.t39, Tryz.t40, Tryz.t41, Tryz.t42, Tryz.t43, Tryz.t44, Tryz.t45, Tryz.t46, Tryz.t47], [Tryz.t48, Tryz.t49, Tryz.t50, Tryz.t51, Tryz.t52, Tryz.t53, Tryz.t54, Tryz.t55, Tryz.t56, Tryz.t57, Tryz.t58, Tryz.t59, Tryz.t60, Tryz.t61, Tryz.t62, Tryz.t63], [Tryz.t64, Tryz.t65, Tryz.t66, Tryz.t67, Tryz.t68, Tryz.t69, Tryz.t70, Tryz.t71, Tryz.t72, Tryz.t73, Tryz.t74, Tryz.t75, Tryz.t76, Tryz.t77, Tryz.t78, Tryz.t79], [Tryz.t80, Tryz.t81, Tryz.t82, Tryz.t83, Tryz.t84, Tryz.t85, Tryz.t86, Tryz.t87, Tryz.t88, Tryz.t89, Tryz.t90, Tryz.t91, Tryz.t92, Tryz.t93, Tryz.t94, Tryz.t95], [Tryz.t96, Tryz.t97, Tryz.t98, Tryz.t99, Tryz.t100, Tryz.t101, Tryz.t102, Tryz.t103, Tryz.t104, Tryz.t105, Tryz.t106, Tryz.t107, Tryz.t108, Tryz.t109, Tryz.t110, Tryz.t111], [Tryz.t112, Tryz.t113, Tryz.t114, Tryz.t115, Tryz.t116, Tryz.t117, Tryz.t118, Tryz.t119, Tryz.t120, Tryz.t121, Tryz.t122, Tryz.t123, Tryz.t124, Tryz.t125, Tryz.t126, Tryz.t127], [Tryz.t128, Tryz.t129, Tryz.t130, Tryz.t131, Tryz.t132, Tryz.t133, Tryz.t134, Tryz.t135, Tryz.t136, Tryz.t137, Tryz.t138, Tryz.t139, Tryz.t140, Tryz.t141, Tryz.t142, Tryz.t143], [Tryz.t144, Tryz.t145, Tryz.t146, Tryz.t147, Tryz.t148, Tryz.t149, Tryz.t150, Tryz.t151, Tryz.t152, Tryz.t153, Tryz.t154, Tryz.t155, Tryz.t156, Tryz.t157, Tryz.t158, Tryz.t159], [Tryz.t160, Tryz.t161, Tryz.t162, Tryz.t163, Tryz.t164, Tryz.t165, Tryz.t166, Tryz.t167, Tryz.t168, Tryz.t169, Tryz.t170, Tryz.t171, Tryz.t172, Tryz.t173, Tryz.t174, Tryz.t175], [Tryz.t176, Tryz.t177, Tryz.t178, Tryz.t179, Tryz.t180, Tryz.t181, Tryz.t182, Tryz.t183, Tryz.t184, Tryz.t185, Tryz.t186, Tryz.t187, Tryz.t188, Tryz.t189, Tryz.t190, Tryz.t191], [Tryz.t192, Tryz.t193, Tryz.t194, Tryz.t195, Tryz.t196, Tryz.t197, Tryz.t198, Tryz.t199, Tryz.t200, Tryz.t201, Tryz.t202, Tryz.t203, Tryz.t204, Tryz.t205, Tryz.t206, Tryz.t207], [Tryz.t208, Tryz.t209, Tryz.t210, Tryz.t211, Tryz.t212, Tryz.t213, Tryz.t214, Tryz.t215, Tryz.t216, Tryz.t217, Tryz.t218, Tryz.t219, Tryz.t220, Tryz.t221, Tryz.t222, Tryz.t223], [Tryz.t224, Tryz.t225, Tryz.t226, Tryz.t227, Tryz.t228, Tryz.t229, Tryz.t230, Tryz.t231, Tryz.t232, Tryz.t233, Tryz.t234, Tryz.t235, Tryz.t236, Tryz.t237, Tryz.t238, Tryz.t239]]
def lnt {α : Type} : List α → Nat → Option α
 | [], _ => none
 | x :: _, 0 => some x
 | _ :: r, n + 1 => lnt r n
noncomputable def tyi (t : Nat) : Option TypeInfo := match lnt tyC (t / 16) with | some l => lnt l (t % 16) | none => none
def TyL : Nat → List TypeInfo → Prop
 | _, [] => True
 | k, i :: r => Tryz.prog.info? k = some i ∧ TyL (k + 1) r
def TyA : Nat → List (List TypeInfo) → Prop
 | _, [] => True
 | k, l :: r => TyL (k * 16) l ∧ TyA (k + 1) r
theorem ty_0 : TyL 0 [Tryz.t0, Tryz.t1, Tryz.t2, Tryz.t3, Tryz.t4, Tryz.t5, Tryz.t6, Tryz.t7, Tryz.t8, Tryz.t9, Tryz.t10, Tryz.t11, Tryz.t12, Tryz.t13, Tryz.t14, Tryz.t15] := ⟨by kernel_rfl, by kernel_rfl, by kernel_rfl, by kernel_rfl, by kernel_rfl, by kernel_rfl, by kernel_rfl, by kernel_rfl, by kernel_rfl, by kernel_rfl, by kernel_rfl, by kernel_rfl, by kernel_rfl, by kernel_rfl, by kernel_rfl, by kernel_rfl, trivial⟩
theorem ty_1 : TyL 16 [Tryz.t16, Tryz.t17, Tryz.t18, Tryz.t19, Tryz.t20, Tryz.t21, Tryz.t22, Tryz.t23, Tryz.t24, Tryz.t25, Tryz.t26, Tryz.t27, Tryz.t28, Tryz.t29, Tryz.t30, Tryz.t31] := ⟨by kernel_rfl, by kernel_rfl, by kernel_rfl, by kernel_rfl, by kernel_rfl, by kernel_rfl, by kernel_rfl, by kernel_rfl, by kernel_rfl, by kernel_rfl, by kernel_rfl, by kernel_rfl, by kernel_rfl, by kernel_rfl, by kernel_rfl, by kernel_rfl, trivial⟩
theorem ty_2 : TyL 32 [Tryz.t32, Tryz.t33, Tryz.t34, Tryz.t35, Tryz.t36, Tryz.t37, Tryz.t38, Tryz.t39, Tryz.t40, Tryz.t41, Tryz.t42, Tryz.t43, Tryz.t44, Tryz.t45, Tryz.t46, Tryz.t47] := ⟨by kernel_rfl, by kernel_rfl, by kernel_rfl, by kernel_rfl, by kernel_rfl, by kernel_rfl, by kernel_rfl, by kernel_rfl, by kernel_rfl, by kernel_rfl, by kernel_rfl, by kernel_rfl, by kernel_rfl, by kernel_rfl, by kernel_rfl, by kernel_rfl, trivial⟩
theorem ty_3 : TyL 48 [Tryz.t48, Tryz.t49, Tryz.t50, Tryz.t51, Tryz.t52, Tryz.t53, Tryz.t54, Tryz.t55, Tryz.t56, Tryz.t57, Tryz.t58, Tryz.t59, Tryz.t60, Tryz.t61, Tryz.t62, Tryz.t63] := ⟨by kernel_rfl, by kernel_rfl, by kernel_rfl, by kernel_rfl, by kernel_rfl, by kernel_rfl, by kernel_rfl, by kernel_rfl, by kernel_rfl, by kernel_rfl, by kernel_rfl, by kernel_rfl, by kernel_rfl, by kernel_rfl, by kernel_rfl, by kernel_rfl, trivial⟩
theorem ty_4 : TyL 64 [Tryz.t64, Tryz.t65, Tryz.t66, Tryz.t67, Tryz.t68, Tryz.t69, Tryz.t70, Tryz.t71, Tryz.t72, Tryz.t73, Tryz.t74, Tryz.t75, Tryz.t76, Tryz.t77, Tryz.t78, Tryz.t79] := ⟨by kernel_rfl, by kernel_rfl, by kernel_rfl, by kernel_rfl, by kernel_rfl, by kernel_rfl, by kernel_rfl, by kernel_rfl, by kernel_rfl, by kernel_rfl, by kernel_rfl, by kernel_rfl, by kernel_rfl, by kernel_rfl, by kernel_rfl, by kernel_rfl, trivial⟩
theorem ty_5 : TyL 80 [Tryz.t80, Tryz.t81, Tryz.t82, Tryz.t83, Tryz.t84, Tryz.t85, Tryz.t86, Tryz.t87, Tryz.t88, Tryz.t89, Tryz.t90, Tryz.t91, Tryz.t92, Tryz.t93, Tryz.t94, Tryz.t95] := ⟨by kernel_rfl, by kernel_rfl, by kernel_rfl, by kernel_rfl, by kernel_rfl, by kernel_rfl, by kernel_rfl, by kernel_rfl, by kernel_rfl, by kernel_rfl, by kernel_rfl, by kernel_rfl, by kernel_rfl, by kernel_rfl, by kernel_rfl, by kernel_rfl, trivial⟩
theorem ty_6 : TyL 96 [Tryz.t96, Tryz.t97, Tryz.t98, Tryz.t99, Tryz.t100, Tryz.t101, Tryz.t102, Tryz.t103, Tryz.t104, Tryz.t105, Tryz.t106, Tryz.t107, Tryz.t108, Tryz.t109, Tryz.t110, Tryz.t111] := ⟨by kernel_rfl, by kernel_rfl, by kernel_rfl, by kernel_rfl, by kernel_rfl, by kernel_rfl, by kernel_rfl, by kernel_rfl, by kernel_rfl, by kernel_rfl, by kernel_rfl, by kernel_rfl, by kernel_rfl, by kernel_rfl, by kernel_rfl, by kernel_rfl, trivial⟩
theorem ty_7 : TyL 112 [Tryz.t112, Tryz.t113, Tryz.t114, Tryz.t115, Tryz.t116, Tryz.t117, Tryz.t118, Tryz.t119, Tryz.t120, Tryz.t121, Tryz.t122, Tryz.t123, Tryz.t124, Tryz.t125, Tryz.t126, Tryz.t127] := ⟨by kernel_rfl, by kernel_rfl, by kernel_rfl, by kernel_rfl, by kernel_rfl, by kernel_rfl, by kernel_rfl, by kernel_rfl, by kernel_rfl, by kernel_rfl, by kernel_rfl, by kernel_rfl, by kernel_rfl, by kernel_rfl, by kernel_rfl, by kernel_rfl, trivial⟩
theorem ty_8 : TyL 128 [Tryz.t128, Tryz.t129, Tryz.t130, Tryz.t131, Tryz.t132, Tryz.t133, Tryz.t134, Tryz.t135, Tryz.t136, Tryz.t137, Tryz.t138, Tryz.t139, Tryz.t140, Tryz.t141, Tryz.t142, Tryz.t143] := ⟨by kernel_rfl, by kernel_rfl, by kernel_rfl, by kernel_rfl, by kernel_rfl, by kernel_rfl, by kernel_rfl, by kernel_rfl, by kernel_rfl, by kernel_rfl, by kernel_rfl, by kernel_rfl, by kernel_rfl, by kernel_rfl, by kernel_rfl, by kernel_rfl, trivial⟩
theorem ty_9 : TyL 144 [Tryz.t144, Tryz.t145, Tryz.t146, Tryz.t147, Tryz.t148, Tryz.t149, Tryz.t150, Tryz.t151, Tryz.t152, Tryz.t153, Tryz.t154, Tryz.t155, Tryz.t156, Tryz.t157, Tryz.t158, Tryz.t159] := ⟨by kernel_rfl, by kernel_rfl, by kernel_rfl, by kernel_rfl, by kernel_rfl, by kernel_rfl, by kernel_rfl, by kernel_rfl, by kernel_rfl, by kernel_rfl, by kernel_rfl, by kernel_rfl, by kernel_rfl, by kernel_rfl, by kernel_rfl, by kernel_rfl, trivial⟩
theorem ty_10 : TyL 160 [Tryz.t160, Tryz.t161, Tryz.t162, Tryz.t163, Tryz.t164, Tryz.t165, Tryz.t166, Tryz.t167, Tryz.t168, Tryz.t169, Tryz.t170, Tryz.t171, Tryz.t172, Tryz.t173, Tryz.t174, Tryz.t175] := ⟨by kernel_rfl, by kernel_rfl, by kernel_rfl, by kernel_rfl, by kernel_rfl, by kernel_rfl, by kernel_rfl, by kernel_rfl, by kernel_rfl, by kernel_rfl, by kernel_rfl, by kernel_rfl, by kernel_rfl, by kernel_rfl, by kernel_rfl, by kernel_rfl, trivial⟩
theorem ty_11 : TyL 176 [Tryz.t176, Tryz.t177, Tryz.t178, Tryz.t179, Tryz.t180, Tryz.t181, Tryz.t182, Tryz.t183, Tryz.t184, Tryz.t185, Tryz.t186, Tryz.t187, Tryz.t188, Tryz.t189, Tryz.t190, Tryz.t191] := ⟨by kernel_rfl, by kernel_rfl, by kernel_rfl, by kernel_rfl, by kernel_rfl, by kernel_rfl, by kernel_rfl, by kernel_rfl, by kernel_rfl, by kernel_rfl, by kernel_rfl, by kernel_rfl, by kernel_rfl, by kernel_rfl, by kernel_rfl, by kernel_rfl, trivial⟩
theorem ty_12 : TyL 192 [Tryz.t192, Tryz.t193, Tryz.t194, Tryz.t195, Tryz.t196, Tryz.t197, Tryz.t198, Tryz.t199, Tryz.t200, Tryz.t201, Tryz.t202, Tryz.t203, Tryz.t204, Tryz.t205, Tryz.t206, Tryz.t207] := ⟨by kernel_rfl, by kernel_rfl, by kernel_rfl, by kernel_rfl, by kernel_rfl, by kernel_rfl, by kernel_rfl, by kernel_rfl, by kernel_rfl, by kernel_rfl, by kernel_rfl, by kernel_rfl, by kernel_rfl, by kernel_rfl, by kernel_rfl, by kernel_rfl, trivial⟩
theorem ty_13 : TyL 208 [Tryz.t208, Tryz.t209, Tryz.t210, Tryz.t211, Tryz.t212, Tryz.t213, Tryz.t214, Tryz.t215, Tryz.t216, Tryz.t217, Tryz.t218, Tryz.t219, Tryz.t220, Tryz.t221, Tryz.t222, Tryz.t223] := ⟨by kernel_rfl, by kernel_rfl, by kernel_rfl, by kernel_rfl, by kernel_rfl, by kernel_rfl, by kernel_rfl, by kernel_rfl, by kernel_rfl, by kernel_rfl, by kernel_rfl, by kernel_rfl, by kernel_rfl, by kernel_rfl, by kernel_rfl, by kernel_rfl, trivial⟩
theorem ty_14 : TyL 224 [Tryz.t224, Tryz.t225, Tryz.t226, Tryz.t227, Tryz.t228, Tryz.t229, Tryz.t230, Tryz.t231, Tryz.t232, Tryz.t233, Tryz.t234, Tryz.t235, Tryz.t236, Tryz.t237, Tryz.t238, Tryz.t239] := ⟨by kernel_rfl, by kernel_rfl, by kernel_rfl, by kernel_rfl, by kernel_rfl, by kernel_rfl, by kernel_rfl, by kernel_rfl, by kernel_rfl, by kernel_rfl, by kernel_rfl, by kernel_rfl, by kernel_rfl, by kernel_rfl, by kernel_rfl, by kernel_rfl, trivial⟩
theorem tyA : TyA 0 tyC := ⟨ty_0, ty_1, ty_2, ty_3, ty_4, ty_5, ty_6, ty_7, ty_8, ty_9, ty_10, ty_11, ty_12, ty_13, ty_14, trivial⟩
theorem TyL.get : ∀ {l : List TypeInfo} {k j : Nat} {i : TypeInfo}, TyL k l → lnt l j = some i → Tryz.prog.info? (k + j) = some i
 | [], _, _, _, _, h => by cases h
 | _ :: _, k, 0, _, h, e => by injection e with e; subst e; exact h.1
 | _ :: r, k, j + 1, _, h, e => by have := TyL.get (l := r) h.2 e; rw [Nat.add_right_comm] at this; exact this
theorem TyA.get : ∀ {l : List (List TypeInfo)} {k j : Nat} {q : List TypeInfo}, TyA k l → lnt l j = some q → TyL ((k + j) * 16) q
 | [], _, _, _, _, h => by cases h
 | _ :: _, k, 0, _, h, e => by injection e with e; subst e; exact h.1
 | _ :: r, k, j + 1, _, h, e => by have := TyA.get (l := r) h.2 e; rw [Nat.add_right_comm] at this; exact this
theorem tyi_ok {t : Nat} {i : TypeInfo} (h : tyi t = some i) : Tryz.prog.info? t = some i := by
 unfold tyi at h
 split at h
 ·next l e =>
  have := (tyA.get e).get h
  rwa [Nat.zero_add, Nat.mul_comm, Nat.div_add_mod] at this
 ·cases h
def dsc : TypeInfo → TypeDesc
 | { desc := d, .. } => d
def siz : TypeInfo → Nat
 | { size := z, .. } => z
theorem dsc_eq (i : TypeInfo) : dsc i = i.desc := by cases i; rfl
theorem siz_eq (i : TypeInfo) : siz i = i.size := by cases i; rfl
noncomputable def undD : TypeDesc → Option TypeDesc
 | .named _ u => match tyi u with | some i => some (dsc i) | none => none
 | d => some d
noncomputable def und (t : Nat) : Option TypeDesc := match tyi t with | some i => undD (dsc i) | none => none
noncomputable def szt (t : Nat) : Option Nat := match tyi t with | some i => some (siz i) | none => none
theorem und_ok {t : Nat} {d : TypeDesc} (h : und t = some d) : Tryz.prog.underlying t = some d := by
 unfold und at h
 unfold Program.underlying
 cases e : tyi t with
 | none => rw [e] at h; cases h
 | some i =>
  rw [e] at h
  rw [tyi_ok e]
  cases i with
  | mk desc =>
   dsimp only [dsc] at h
   cases desc with
   | named q u =>
    unfold undD at h
    dsimp only at h ⊢
    cases e2 : tyi u with
    | none => rw [e2] at h; cases h
    | some i2 => rw [e2] at h; rw [tyi_ok e2, ← h]; show some i2.desc = some (dsc i2); rw [dsc_eq]
   | _ => exact h
theorem szt_ok {t s : Nat} (h : szt t = some s) : (Tryz.prog.info? t).map (·.size) = some s := by
 unfold szt at h
 cases e : tyi t with
 | none => rw [e] at h; cases h
 | some i => rw [e] at h; rw [tyi_ok e, ← h]; show some i.size = some (siz i); rw [siz_eq]
section
variable {ro : Ro} {n : Fr} {Kn : Act → World → Prop} {Ke : Nat → Act → World → Prop} {Kr : Act → World → Prop} {env : Env} {w : World}
variable {ops : Array Oper} {rest : List Oper} {o : Oper} {v : Value} {x : Operand} {c : Bool}
def opv (m : Nat) (env : Env) : Operand → Option Value
 | .tmp t => match Nat.blt t m with | true => look env t | false => none
 | .const v => some v
 | .func f => some (.func (.func f) #[] #[])
 | .global g => some (.pointer (some ⟨g, 0, none⟩))
theorem opv_ok (h : opv n.n env x = some v) : Ev n env x v := by
 cases x with
 | tmp t =>
  unfold opv at h; dsimp only at h
  cases hb : Nat.blt t n.n with
  | true => rw [hb] at h; exact ev_tmp h hb
  | false => rw [hb] at h; cases h
 | const u => injection h with h; subst h; exact ev_const
 | func f => injection h with h; subst h; exact ev_func
 | global g => injection h with h; subst h; exact ev_global
def binI (k : IntKind) (p q : Int) : BinOp → Option Value
 | .add => some (.int k (k.wrap (p + q)))
 | .sub => some (.int k (k.wrap (p - q)))
 | .mul => some (.int k (k.wrap (p * q)))
 | .eql => some (.bool (decide (p = q)))
 | .neq => some (.bool (!decide (p = q)))
 | .lss => some (.bool (decide (p < q)))
 | .leq => some (.bool (decide (p ≤ q)))
 | .gtr => some (.bool (decide (q < p)))
 | .geq => some (.bool (decide (q ≤ p)))
 | _ => none
def binS (l l' : List UInt8) : BinOp → Option Value
 | .eql => some (.bool (decide (l = l')))
 | .neq => some (.bool (!decide (l = l')))
 | .lss => some (.bool (Op.bytesLess l l'))
 | .geq => some (.bool (!Op.bytesLess l l'))
 | _ => none
def qbin (bop : BinOp) : Value → Value → Option Value
 | .int k p, .int k' q => match decide (k = k') with | true => binI k p q bop | false => none
 | .string ⟨⟨l⟩⟩, .string ⟨⟨l'⟩⟩ => binS l l' bop
 | _, _ => none
theorem lnt_ok {α : Type} : ∀ {l : List α} {i : Nat} {x : α}, lnt l i = some x → l[i]? = some x
 | [], _, _, h => by cases h
 | y :: _, 0, x, h => h
 | _ :: r, n + 1, x, h => by rw [List.getElem?_cons_succ]; exact lnt_ok (l := r) h
theorem lnt_arr {α : Type} {a : Array α} {i : Nat} {x : α} (h : lnt a.toList i = some x) : a[i]? = some x := by rw [← Array.getElem?_toList]; exact lnt_ok h
theorem lnt_dst {ops : Array Oper} {j t : Nat} (h : (lnt ops.toList j).bind (·.dst) = some t) : (ops[j]?).bind (·.dst) = some t := by
 cases e : lnt ops.toList j with
 | none => rw [e] at h; cases h
 | some y => rw [e] at h; rw [lnt_arr e]; exact h
noncomputable def qfld (ad : Addr) (i : Nat) : Option TypeDesc → Option Value
 | some (.struct ⟨fs⟩) => match lnt fs i with
  | some ⟨_, t, o, _, _, _, _⟩ => match szt t with | some (_ + 1) => some (.pointer (some (ad.add o))) | _ => none
  | none => none
 | _ => none
noncomputable def qlen : Option TypeDesc → Value → Option Value
 | some .string, .string ⟨⟨l⟩⟩ => some (.int .i64 l.length)
 | some (.slice _), .slice _ m _ => some (.int .i64 m)
 | _, _ => none
noncomputable def qcnv : Option TypeDesc → Option TypeDesc → Value → Option Value
 | some _, some (.int k), .int _ p => some (.int k (k.wrap p))
 | _, _, _ => none
noncomputable def qv (m : Nat) (env : Env) : Op → Option Value
 | .move x => opv m env x
 | .assign x => opv m env x
 | .nilCheck x => match opv m env x with | some (.pointer (some ad)) => some (.pointer (some ad)) | _ => none
 | .extract x i => match opv m env x with | some (.tuple ⟨vs⟩) => lnt vs i | _ => none
 | .fieldAddr t x i => match opv m env x with | some (.pointer (some ad)) => qfld ad i (und t) | _ => none
 | .binOp bop _ x y _ => match opv m env x, opv m env y with | some a, some b => qbin bop a b | _, _ => none
 | .unOp .not _ x => match opv m env x with | some (.bool b) => some (.bool (!b)) | _ => none
 | .unOp .neg _ x => match opv m env x with | some (.int k p) => some (.int k (k.wrap (-p))) | _ => none
 | .convert t t' x => match opv m env x with | some a => qcnv (und t) (und t') a | none => none
 | .call ⟨.builtin .len, ⟨[x]⟩, ⟨[t]⟩⟩ => match opv m env x with | some a => qlen (und t) a | none => none
 | _ => none
theorem qv_ok {op : Op} (ho : o.op = op) (h : qv n.n env op = some v) : Yld Tryz.prog n env o v w := by
 unfold qv at h
 split at h
 ·exact y_move ho (opv_ok h)
 ·exact y_assign ho (opv_ok h)
 ·split at h
  ·next e => injection h with h; subst h; exact y_nilCheck ho (opv_ok e)
  ·cases h
 ·split at h
  ·next e => exact y_extract ho (opv_ok e) (by rw [List.getElem?_toArray]; exact lnt_ok h)
  ·cases h
 ·split at h
  ·next e =>
   unfold qfld at h
   split at h
   ·next e1 =>
    split at h
    ·next e2 =>
     split at h
     ·next e3 => injection h with h; subst h; exact y_fieldAddr ho (opv_ok e) (und_ok e1) (by rw [List.getElem?_toArray]; exact lnt_ok e2) (szt_ok e3) rfl
     ·cases h
    ·cases h
   ·cases h
  ·cases h
 ·split at h
  ·next bop t x y t' _ _ a b ea eb =>
   unfold qbin at h
   split at h
   ·next k p k' q =>
    split at h
    ·next ek =>
     have ek := of_decide_eq_true ek
     subst ek
     unfold binI at h
     have ha := opv_ok ea; have hb := opv_ok eb
     split at h <;> first | (cases h; done) | (injection h with h; subst h)
     ·exact y_add ho ha hb
     ·exact y_sub ho ha hb
     ·exact y_mul ho ha hb
     ·exact y_eql ho ha hb
     ·exact y_neq ho ha hb
     ·exact y_lss ho ha hb
     ·exact y_leq ho ha hb
     ·exact y_gtr ho ha hb
     ·exact y_geq ho ha hb
    ·cases h
   ·next l l' =>
    have ha : Ev n env x (str l) := opv_ok ea
    have hb : Ev n env y (str l') := opv_ok eb
    unfold binS at h
    split at h <;> first | (cases h; done) | (injection h with h; subst h)
    ·exact y_eqs ho ha hb
    ·exact y_nes ho ha hb
    ·exact y_lts ho ha hb
    ·exact y_ges ho ha hb
   ·cases h
  ·cases h
 ·split at h
  ·next e => injection h with h; subst h; exact y_not ho (opv_ok e)
  ·cases h
 ·split at h
  ·next e => injection h with h; subst h; exact y_neg ho (opv_ok e)
  ·cases h
 ·split at h
  ·next e =>
   unfold qcnv at h
   split at h
   ·next e1 e2 => injection h with h; subst h; exact y_conv ho (by rw [und_ok e1]; rfl) (und_ok e2) (opv_ok e)
   ·cases h
  ·cases h
 ·split at h
  ·next e =>
   unfold qlen at h
   split at h
   ·next e1 => injection h with h; subst h; exact y_lens ho (und_ok e1) (opv_ok e)
   ·next e1 => injection h with h; subst h; exact y_lenl ho (und_ok e1) (opv_ok e)
   ·cases h
  ·cases h
 ·cases h
noncomputable def runq (m : Nat) : List Oper → Env → List Oper × Env
 | [], env => ([], env)
 | o :: rest, env => match o.guard, o.dst with
  | none, some d => match qv m env o.op with | some v => runq m rest ((d, v) :: env) | none => (o :: rest, env)
  | _, _ => (o :: rest, env)
theorem runq_ok : ∀ {l : List Oper} {env : Env}, SeqW Tryz.prog ro n ops Kn Ke Kr (runq n.n l env).1 (runq n.n l env).2 w → SeqW Tryz.prog ro n ops Kn Ke Kr l env w
 | [], _, h => h
 | o :: rest, env, h => by
  unfold runq at h
  split at h
  ·next hg hd =>
   split at h
   ·next e => exact s_q (grd_none hg) hd (qv_ok rfl e) (runq_ok h)
   ·exact h
  ·exact h
theorem qu {d : Nat} {l' : List Oper} {env' : Env} (h : SeqW Tryz.prog ro n ops Kn Ke Kr l' env' w) (hv : qv n.n env o.op = some v := by rfl) (hg : o.guard = none := by rfl) (hd : o.dst = some d := by rfl) (hr : runq n.n rest ((d, v) :: env) = (l', env') := by rfl) : SeqW Tryz.prog ro n ops Kn Ke Kr (o :: rest) env w :=
 s_q (grd_none hg) hd (qv_ok rfl hv) (runq_ok (by rw [hr]; exact h))
noncomputable def runa (m : Nat) (ops : Array Oper) (X : List Nat) : Tr → Env → Tr × Env
 | .c (i, .q) rs, env => match lnt ops.toList i with
  | some o => match o.guard, o.dst, X.contains i with
   | none, some d, false => match qv m env o.op with | some v => runa m ops X rs ((d, v) :: env) | none => (.c (i, .q) rs, env)
   | _, _, _ => (.c (i, .q) rs, env)
  | none => (.c (i, .q) rs, env)
 | T, env => (T, env)
theorem runa_ok {S : Sn} : ∀ {T : Tr} {env : Env}, AnyW Tryz.prog ro n ops Kn Ke Kr S (runa n.n ops S.x T env).1 (runa n.n ops S.x T env).2 w → AnyW Tryz.prog ro n ops Kn Ke Kr S T env w
 | .c (i, .q) rs, env, h => by
  unfold runa at h
  split at h
  ·next o e =>
   split at h
   ·next hg hd hx =>
    split at h
    ·next e2 => exact a_q (lnt_arr e) (grd_none hg) hd (fun w' => qv_ok rfl e2) (runa_ok h) hx
    ·exact h
   ·exact h
  ·exact h
 | .c (i, .s) rs, env, h => h
 | .c (i, .t) rs, env, h => h
 | .n, env, h => h
 | .two .., env, h => h
 | .three .., env, h => h
 | .four .., env, h => h
theorem qa {S : Sn} {i d : Nat} {rs T' : Tr} {env' : Env} (h : AnyW Tryz.prog ro n ops Kn Ke Kr S T' env' w) (hi : lnt ops.toList i = some o := by rfl) (hv : qv n.n env o.op = some v := by rfl) (hg : o.guard = none := by rfl) (hd : o.dst = some d := by rfl) (hx : S.x.contains i = false := by rfl) (hr : runa n.n ops S.x rs ((d, v) :: env) = (T', env') := by rfl) : AnyW Tryz.prog ro n ops Kn Ke Kr S (.c (i, .q) rs) env w :=
 a_q (lnt_arr hi) (grd_none hg) hd (fun w' => qv_ok rfl hv) (runa_ok (by rw [hr]; exact h)) hx
noncomputable def ldk : Op → Option (Operand × Bool)
 | .load t x => match und t with
  | some (.struct _) => some (x, true)
  | some (.array _ _) => some (x, true)
  | some _ => some (x, false)
  | none => none
 | _ => none
noncomputable def ldsz : Op → Option Nat
 | .load t _ => szt t
 | _ => none
theorem y_ld1 {ad : Addr} (hk : ldk o.op = some (x, false)) (hx : Ev n env x (.pointer (some ad))) (hc : CellsAt w ad [v]) : Yld Tryz.prog n env o v w := by
 unfold ldk at hk
 split at hk
 ·next t y e =>
  split at hk
  ·cases hk
  ·cases hk
  ·next d h1 h2 h3 =>
   injection hk with hk; injection hk with hk _; subst hk
   exact y_load1 e hx (und_ok h3) (by cases d <;> first | rfl | exact absurd rfl (h1 _) | exact absurd rfl (h2 _ _)) hc
  ·cases hk
 ·cases hk
theorem y_ldN {ad : Addr} {l : List Value} (hk : ldk o.op = some (x, true)) (hx : Ev n env x (.pointer (some ad))) (hc : CellsAt w ad l) (hs : ldsz o.op = some l.length) : Yld Tryz.prog n env o (.agg l.toArray) w := by
 unfold ldk at hk
 split at hk
 ·next t y e =>
  have hs : (Tryz.prog.info? t).map (·.size) = some l.length := by rw [e] at hs; exact szt_ok hs
  split at hk
  ·next e2 => injection hk with hk; injection hk with hk _; subst hk; exact y_loadN e hx (und_ok e2) rfl hs hc
  ·next e2 => injection hk with hk; injection hk with hk _; subst hk; exact y_loadN e hx (und_ok e2) rfl hs hc
  ·next h1 h2 h3 => injection hk with hk; injection hk with _ hk; cases hk
  ·cases hk
 ·cases hk
theorem blk_all {b : Nat} {t : TypeId} {cs : Array Value} (h : Blk w b t cs) : CellsAt w ⟨b, 0, none⟩ cs.toList := CellsAt.of_blk h (by rw [List.drop_zero]; exact List.take_length)
def opn : Op → Nat
 | .move _ => 1
 | .assign _ => 1
 | .fieldAddr _ _ _ => 2
 | .nilCheck _ => 2
 | .pick _ _ _ => 3
 | .binOp _ _ _ _ _ => 4
 | .unOp _ _ _ => 5
 | .convert _ _ _ => 5
 | .extract _ _ => 5
 | .call ⟨.builtin .len, _, _⟩ => 5
 | _ => 0
section
variable {y : Operand} {t e : TypeId} {ad : Addr} {p : Int} {k : IntKind} {a : Value}
theorem z_fld {i : Nat} (ho : o.op = .fieldAddr t x i) (hx : Ev n env x (.pointer (some ad))) (h : qfld ad i (und t) = some v) : Yld Tryz.prog n env o v w := by
 unfold qfld at h
 split at h
 ·next e1 =>
  split at h
  ·next e2 =>
   split at h
   ·next e3 => injection h with h; subst h; exact y_fieldAddr ho hx (und_ok e1) (by rw [List.getElem?_toArray]; exact lnt_ok e2) (szt_ok e3) rfl
   ·cases h
  ·cases h
 ·cases h
theorem z_idx {A : Option Addr} {m c s : Nat} (ho : o.op = .indexAddr t x y) (ht : und t = some (.slice e)) (hs : szt e = some s) (hx : Ev n env x (.slice A m c)) (hy : Ev n env y (.int k p)) (h0 : 0 ≤ p ∧ p < m) (hA : A = some ad) : Yld Tryz.prog n env o (.pointer (some (ad.add (p.toNat * s)))) w := y_indexAddr ho (und_ok ht) (szt_ok hs) hx hy h0 hA
theorem z_sat {l : List UInt8} {b : Int} (ho : o.op = .index t x y) (ht : und t = some .string) (hx : Ev n env x (str l)) (hy : Ev n env y (.int k p)) (h : Vc.sat l p = some b) : Yld Tryz.prog n env o (.int .u8 b) w := y_satl ho (und_ok ht) hx hy h
theorem z_sfrom {l s : List UInt8} (ho : o.op = .slice t x (some y) none none) (ht : und t = some .string) (hx : Ev n env x (str l)) (hy : Ev n env y (.int k p)) (h : lfrom l p = some s) : Yld Tryz.prog n env o (str s) w := y_sfrom ho (und_ok ht) hx hy h
theorem z_supto {l s : List UInt8} (ho : o.op = .slice t x none (some y) none) (ht : und t = some .string) (hx : Ev n env x (str l)) (hy : Ev n env y (.int k p)) (h : lupto l p = some s) : Yld Tryz.prog n env o (str s) w := y_supto ho (und_ok ht) hx hy h
theorem z_len (ho : o.op = .call ⟨.builtin .len, ⟨[x]⟩, ⟨[t]⟩⟩) (hx : Ev n env x a) (h : qlen (und t) a = some v) : Yld Tryz.prog n env o v w := by
 unfold qlen at h
 split at h
 ·next e1 => injection h with h; subst h; exact y_lens ho (und_ok e1) hx
 ·next e1 => injection h with h; subst h; exact y_lenl ho (und_ok e1) hx
 ·cases h
theorem z_conv {t' : TypeId} (ho : o.op = .convert t t' x) (hx : Ev n env x a) (h : qcnv (und t) (und t') a = some v) : Yld Tryz.prog n env o v w := by
 unfold qcnv at h
 split at h
 ·next e1 e2 => injection h with h; subst h; exact y_conv ho (by rw [und_ok e1]; rfl) (und_ok e2) hx
 ·cases h
end
structure Wr (p : Prop) : Prop where
 out : p
theorem EV (h : Ev n env x v := by first | exact et | exact ev_const | exact ev_gv et hc) : Ev n env x v := h
section
variable {t j : Nat} {b c : Bool}
theorem gT (hg : o.guard = some (j, true)) (hj : (lnt ops.toList j).bind (·.dst) = some t) (hl : look env t = some (.bool b)) (ht : Nat.blt t n.n = true) : Grd n env ops o b := g_true hg (lnt_dst hj) hl ht
theorem gF (hg : o.guard = some (j, false)) (hj : (lnt ops.toList j).bind (·.dst) = some t) (hl : look env t = some (.bool b)) (ht : Nat.blt t n.n = true) : Grd n env ops o (!b) := g_false hg (lnt_dst hj) hl ht
theorem gT2 (hg : o.guard = some (j, true)) (hj : (lnt ops.toList j).bind (·.dst) = some t) (hl : look env t = some (gv c (.bool b))) (ht : Nat.blt t n.n = true) : Grd n env ops o (c && b) := g_true2 hg (lnt_dst hj) hl ht
theorem gF2 (hg : o.guard = some (j, false)) (hj : (lnt ops.toList j).bind (·.dst) = some t) (hl : look env t = some (gv c (.bool b))) (ht : Nat.blt t n.n = true) : Grd n env ops o (c && !b) := g_false2 hg (lnt_dst hj) hl ht
end
theorem EG (h : Ev n env x v := by first | exact ev_gv et hc | exact et | exact ev_const) : Ev n env x v := h
theorem GD (h : Grd n env ops o c := by first | exact gT rfl rfl rfl rfl | exact gF rfl rfl rfl rfl | exact gT2 rfl rfl rfl rfl | exact gF2 rfl rfl rfl rfl) : Grd n env ops o c := h
theorem PO {os : List MO} {m : MO} {f : MO → List MO} (h : At os m f := by repeat (first | with_reducible exact At.z | apply At.s)) : At os m f := h
theorem IN {L : List Cl} {a : Cl} (h : In L a := by repeat (first | with_reducible exact In.z | refine In.s ?_)) : In L a := h
theorem RM {os os' : List MO} {m : MO} (h : Rm os m os' := by repeat (first | with_reducible exact Rm.z | apply Rm.s)) : Rm os m os' := h
theorem GO {os os' : List MO} (h : Got os os' := by repeat (first | exact Got.n | refine Got.c RM ?_)) : Got os os' := h
theorem SU {L L' : List Cl} (h : Subs L L' := by repeat (first | exact trivial | refine ⟨IN, ?_⟩)) : Subs L L' := h
theorem SB {e : Env} (h : Sub e env := by repeat (first | exact trivial | refine ⟨rfl, ?_⟩)) : Sub e env := h
theorem imp_of {p q : Prop} (h : p → q) (hp : p) : q := h hp
theorem CA.now {D : NP} {ad : Addr} {l : List Value} (h : CA D w ad l) : CellsAt w ad l := h.1
theorem LD {ad : Addr} {l : List Value} (h : CellsAt w ad l := by first
 | exact CellsAt.of_blk (hI.blk PO) (by rfl)
 | exact CA.now (by assumption)
 | exact (CA.part (by assumption) (by rfl)).1
 | exact (hI.kblk IN (by rfl)).1
 | exact CA.now (imp_of (by assumption) hc)
 | exact (CA.part (imp_of (by assumption) hc) (by rfl)).1) : CellsAt w ad l := h
theorem LA {ad : Addr} {l : List Value} (h : CellsAt w ad l := by first
 | exact blk_all (hI.blk PO)
 | exact CA.now (by assumption)) : CellsAt w ad l := h
theorem LX {ad : Addr} {l : List Value} (h : CellsAt w ad l := by first
 | exact (CA.blk (hI.blk PO) (by rfl)).at_ (SX.any rfl hw')
 | exact CA.at_ (by assumption) (SX.any rfl hw')
 | exact (CA.part (by assumption) (by rfl)).at_ (SX.any rfl hw')
 | exact (hI.kblk IN (by rfl)).at_ (SX.any rfl hw')
 | exact CA.at_ (imp_of (by assumption) hc) (SX.any rfl hw')
 | exact (CA.part (imp_of (by assumption) hc) (by rfl)).at_ (SX.any rfl hw')
 | exact CA.at_ (by assumption) hw'
 | exact (CA.part (by assumption) (by rfl)).at_ hw'
 | exact (hI.kblk IN (by rfl)).at_ hw') : CellsAt w ad l := h
theorem YM (h : Yld Tryz.prog n env o v w := by first | exact y_and rfl et et | exact y_or rfl et et) : Yld Tryz.prog n env o v w := h
theorem YI (h : Yld Tryz.prog n env o v w := by first
 | exact z_idx rfl (by rfl) (by rfl) EV EV (lat_bd (by assumption)) (by assumption)
 | exact z_sat rfl (by rfl) EV EV (by assumption)
 | exact z_sfrom rfl (by rfl) EV EV (by assumption)
 | exact z_supto rfl (by rfl) EV EV (by assumption)) : Yld Tryz.prog n env o v w := h
theorem Y1 (hk : opn o.op = 1 := by rfl) (h : Yld Tryz.prog n env o v w := by first
 | exact y_move rfl (ev_gv et hc) | exact y_move rfl et | exact y_move rfl ev_const
 | exact y_assign rfl (ev_gv et hc) | exact y_assign rfl et | exact y_assign rfl ev_const) : Yld Tryz.prog n env o v w := h
theorem Y2 (hk : opn o.op = 2 := by rfl) (h : Yld Tryz.prog n env o v w := by first
 | exact z_fld rfl EV (by rfl)
 | exact y_nilCheck rfl EV) : Yld Tryz.prog n env o v w := h
theorem Y3 (hk : opn o.op = 3 := by rfl) (h : Yld Tryz.prog n env o v w := by first
 | exact y_and2 rfl hc et et | exact y_or2 rfl hc et et | exact y_and rfl et et | exact y_or rfl et et) : Yld Tryz.prog n env o v w := h
theorem Y4 (hk : opn o.op = 4 := by rfl) (h : Yld Tryz.prog n env o v w := by first
 | exact y_eql rfl EV EV | exact y_neq rfl EV EV | exact y_lss rfl EV EV | exact y_gtr rfl EV EV | exact y_geq rfl EV EV | exact y_leq rfl EV EV
 | exact y_eqs rfl EV EV | exact y_nes rfl EV EV
 | exact y_add rfl EV EV | exact y_sub rfl EV EV | exact y_mul rfl EV EV
 | exact y_lts rfl EV EV | exact y_ges rfl EV EV) : Yld Tryz.prog n env o v w := h
theorem Y5 (hk : opn o.op = 5 := by rfl) (h : Yld Tryz.prog n env o v w := by first
 | exact y_not rfl EV
 | exact z_len rfl EG (by rfl)
 | exact y_extract rfl EV rfl | exact y_neg rfl EV
 | exact z_conv rfl EG (by rfl)) : Yld Tryz.prog n env o v w := h
theorem YJ (h : Yld Tryz.prog n env o v w := by first
 | exact z_idx rfl (by rfl) (by rfl) EV EV (lat_bd (imp_of (by assumption) hc)) (And.left (imp_of (by assumption) hc))
 | exact z_sat rfl (by rfl) EV EV (imp_of (by assumption) hc)
 | exact z_sfrom rfl (by rfl) EV EV (imp_of (by assumption) hc)
 | exact z_supto rfl (by rfl) EV EV (imp_of (by assumption) hc)) : Yld Tryz.prog n env o v w := h
theorem Y (h : Yld Tryz.prog n env o v w := by first | exact Y1 | exact Y4 | exact Y2 | exact Y5 | exact Y3) : Yld Tryz.prog n env o v w := h
theorem sG {d : Nat} (h : SeqW Tryz.prog ro n ops Kn Ke Kr rest ((d, gv c v) :: env) w) (hi : o.guard.isSome = true := by rfl) (hl : (Nat.blt 0 (opn o.op)) = true := by rfl) (hg : Grd n env ops o c := by first | exact gT rfl rfl rfl rfl | exact gF rfl rfl rfl rfl | exact gT2 rfl rfl rfl rfl | exact gF2 rfl rfl rfl rfl) (hd : o.dst = some d := by rfl) (hr : c = true → Yld Tryz.prog n env o v w := by exact fun hc => Y) : SeqW Tryz.prog ro n ops Kn Ke Kr (o :: rest) env w := s_gval hg hd hr h
theorem sGL {d : Nat} {x : Operand} (h : SeqW Tryz.prog ro n ops Kn Ke Kr rest ((d, gv c v) :: env) w) (hi : o.guard.isSome = true := by rfl) (hl : ldk o.op = some (x, false) := by rfl) (hg : Grd n env ops o c := by first | exact gT rfl rfl rfl rfl | exact gF rfl rfl rfl rfl | exact gT2 rfl rfl rfl rfl | exact gF2 rfl rfl rfl rfl) (hd : o.dst = some d := by rfl) (hr : c = true → Yld Tryz.prog n env o v w := by exact fun hc => y_ld1 (by rfl) EV LD) : SeqW Tryz.prog ro n ops Kn Ke Kr (o :: rest) env w := s_gval hg hd hr h
theorem sM {d : Nat} (h : SeqW Tryz.prog ro n ops Kn Ke Kr rest ((d, v) :: env) w) (hg : o.guard = none := by rfl) (hl : opn o.op = 3 := by rfl) (hd : o.dst = some d := by rfl) (hr : Yld Tryz.prog n env o v w := by exact YM) : SeqW Tryz.prog ro n ops Kn Ke Kr (o :: rest) env w := sq hr h hg hd
theorem sI {d : Nat} (h : SeqW Tryz.prog ro n ops Kn Ke Kr rest ((d, v) :: env) w) (hg : o.guard = none := by rfl) (hd : o.dst = some d := by rfl) (hr : Yld Tryz.prog n env o v w := by exact YI) : SeqW Tryz.prog ro n ops Kn Ke Kr (o :: rest) env w := sq hr h hg hd
theorem sJ {d : Nat} (h : SeqW Tryz.prog ro n ops Kn Ke Kr rest ((d, gv c v) :: env) w) (hg : Grd n env ops o c := by exact GD) (hd : o.dst = some d := by rfl) (hr : c = true → Yld Tryz.prog n env o v w := by exact fun hc => YJ) : SeqW Tryz.prog ro n ops Kn Ke Kr (o :: rest) env w := s_gval hg hd hr h
theorem sL {d : Nat} {x : Operand} (h : SeqW Tryz.prog ro n ops Kn Ke Kr rest ((d, v) :: env) w) (hl : ldk o.op = some (x, false) := by rfl) (hg : o.guard = none := by rfl) (hd : o.dst = some d := by rfl) (hr : Yld Tryz.prog n env o v w := by exact y_ld1 (by rfl) EV LD) : SeqW Tryz.prog ro n ops Kn Ke Kr (o :: rest) env w := sq hr h hg hd
theorem sN {d : Nat} {x : Operand} (h : SeqW Tryz.prog ro n ops Kn Ke Kr rest ((d, v) :: env) w) (hl : ldk o.op = some (x, true) := by rfl) (hg : o.guard = none := by rfl) (hd : o.dst = some d := by rfl) (hr : Yld Tryz.prog n env o v w := by exact y_ldN (by rfl) EV LA (by rfl)) : SeqW Tryz.prog ro n ops Kn Ke Kr (o :: rest) env w := sq hr h hg hd
section
variable {S : Sn} {i d : Nat} {rs : Tr}
theorem vM (h : AnyW Tryz.prog ro n ops Kn Ke Kr S rs ((d, v) :: env) w) (hi : lnt ops.toList i = some o := by rfl) (hg : o.guard = none := by rfl) (hl : opn o.op = 3 := by rfl) (hd : o.dst = some d := by rfl) (hr : ∀ w', Yld Tryz.prog n env o v w' := by exact fun w' => YM) (hx : S.x.contains i = false := by rfl) : AnyW Tryz.prog ro n ops Kn Ke Kr S (.c (i, .q) rs) env w := a_q (lnt_arr hi) (grd_none hg) hd hr h hx
theorem vI (h : AnyW Tryz.prog ro n ops Kn Ke Kr S rs ((d, v) :: env) w) (hi : lnt ops.toList i = some o := by rfl) (hg : o.guard = none := by rfl) (hd : o.dst = some d := by rfl) (hr : ∀ w', Yld Tryz.prog n env o v w' := by exact fun w' => YI) (hx : S.x.contains i = false := by rfl) : AnyW Tryz.prog ro n ops Kn Ke Kr S (.c (i, .q) rs) env w := a_q (lnt_arr hi) (grd_none hg) hd hr h hx
theorem vJ (h : AnyW Tryz.prog ro n ops Kn Ke Kr S rs ((d, gv c v) :: env) w) (hi : lnt ops.toList i = some o := by rfl) (hg : Grd n env ops o c := by exact GD) (hd : o.dst = some d := by rfl) (hr : c = true → ∀ w', Yld Tryz.prog n env o v w' := by exact fun hc w' => YJ) (hx : S.x.contains i = false := by rfl) : AnyW Tryz.prog ro n ops Kn Ke Kr S (.c (i, .q) rs) env w := a_gval (lnt_arr hi) hg hd hr h hx
theorem vG (h : AnyW Tryz.prog ro n ops Kn Ke Kr S rs ((d, gv c v) :: env) w) (hi : lnt ops.toList i = some o := by rfl) (hs : o.guard.isSome = true := by rfl) (hl : (Nat.blt 0 (opn o.op)) = true := by rfl) (hg : Grd n env ops o c := by exact GD) (hd : o.dst = some d := by rfl) (hr : c = true → ∀ w', Yld Tryz.prog n env o v w' := by exact fun hc w' => Y) (hx : S.x.contains i = false := by rfl) : AnyW Tryz.prog ro n ops Kn Ke Kr S (.c (i, .q) rs) env w := a_gval (lnt_arr hi) hg hd hr h hx
theorem vL {x : Operand} (h : AnyW Tryz.prog ro n ops Kn Ke Kr S rs ((d, v) :: env) w) (hi : lnt ops.toList i = some o := by rfl) (hl : ldk o.op = some (x, false) := by rfl) (hg : o.guard = none := by rfl) (hd : o.dst = some d := by rfl) (hr : ∀ w', S.now w' → Yld Tryz.prog n env o v w' := by exact fun w' hw' => y_ld1 (by rfl) EV LX) (hw : waitsT ops S.x rs i = true := by kernel_rfl) : AnyW Tryz.prog ro n ops Kn Ke Kr S (.c (i, .q) rs) env w := a_read (lnt_arr hi) (grd_none hg) hd hr hw h
theorem vGL {x : Operand} (h : AnyW Tryz.prog ro n ops Kn Ke Kr S rs ((d, gv c v) :: env) w) (hi : lnt ops.toList i = some o := by rfl) (hl : ldk o.op = some (x, false) := by rfl) (hs : o.guard.isSome = true := by rfl) (hg : Grd n env ops o c := by exact GD) (hd : o.dst = some d := by rfl) (hr : c = true → ∀ w', S.now w' → Yld Tryz.prog n env o v w' := by exact fun hc w' hw' => y_ld1 (by rfl) EV LX) (hw : waitsT ops S.x rs i = true := by kernel_rfl) : AnyW Tryz.prog ro n ops Kn Ke Kr S (.c (i, .q) rs) env w := a_gread (lnt_arr hi) hg hd hr hw h
end
theorem T {G' G : Prop} (h : G') (t : Wr G' → G := by
 intro h_
 (repeat (first
  | refine qu ?_
  | refine sr ?_
  | refine nk ?_
  | refine sL ?_
  | refine sG ?_
  | refine sM ?_
  | refine sGL ?_
  | refine sN ?_
  | refine c_block ?_
  | refine c_skip (k_same ?_)
  | refine c_region rfl ?_))
 exact h_.out) : G := t ⟨h⟩
theorem V {G' G : Prop} (h : G') (t : Wr G' → G := by
 intro h_
 (repeat (first
  | refine qa ?_
  | refine vL ?_
  | refine vG ?_
  | refine vGL ?_
  | refine vM ?_
  | refine a_nil (k_same ?_)))
 exact h_.out) : G := t ⟨h⟩
end
end Go.Vc
