import Derived.Test.YtmhoikfoogemnaaGreatDoorHCQ8e
import Derived.Test.YtmhoikfoogemnaaGreatDoorHLfH
namespace Go.Proofs.YtmhoikfoogemnaaGreatDoor
open Go Go.RowKit Go.Vc
set_option maxRecDepth 100000
set_option maxHeartbeats 4000000
set_option linter.unusedVariables false
set_option linter.unusedSimpArgs false
variable {σ:Type} {C0 F:NP} {w0:World} {a1 a2 a3 a4 a5 a6 a7 a8 a9 a10 a11 a12:Option Addr} {b1 b2 b3 b4 b5 b6 b7 b8 b9 b10 b11 b12 c1 c2 c3 c4 c5 c6 c7 c8 c9 c10 c11 c12:Nat}
theorem po (hF:dF F w0) {t1:bu} (hc:AllCl [] F w0) {r:Bool} (h:jH t1=some r):CR F w0 62 #[(Value.agg (fV t1))] (vb r) []:=by
 refine EN Tryz.func62 Tryz.ntmps62 hF hc λhI=>?_
 rw[jH]at h
 refine sr (lX λb1 c2 w1 hI=>?_)
 refine T ?_
 refine aj (T ?_)
 refine TR λhb h=>?_
 exact RF
theorem pR (hF:dF F w0) {n1:Int} (hc:AllCl [] F w0) {r:Int} (h:gx n1=some r):CR F w0 183 #[vi n1] (Value.int .u64 r) []:=by
 refine EN Tryz.func183 Tryz.ntmps183 hF hc λhI=>?_
 rw[gx]at h
 refine T ?_
 refine aj (T ?_)
 refine TR λhb h=>?_
 exact RF
theorem EL (hF:dF F w0) {a1 b1:Int} (hc:AllCl [] F w0) {r:Int} (h:qR a1 b1=some r):CR F w0 245 #[(Value.int .u64 a1),(Value.int .u64 b1)] (Value.int .u64 r) []:=by
 refine EN Tryz.func245 Tryz.ntmps245 hF hc λhI=>?_
 rw[qR]at h
 refine T ?_
 refine aj (T ?_)
 refine bk (α:=Nat×Int×Int) (λx=>λw=>∃ C,Bun cH F w0 C w [] []∧km (x.1) (x.2.1) (x.2.2)=some r) (λx _=>x.1) (λx=>[(0,(Value.int .u64 (x.2.1))),(1,(Value.int .u64 (x.2.2)))]) (fu,a1,b1) BH SB ?_
 clear h hI;rintro⟨fuel1,a2,b2⟩ w1 ⟨c1,hI,h⟩
 dsimp only at hI h ⊢
 rcases fuel1 with _ | fuel1
 ·rw[km]at h;cases h
 rw[km]at h
 refine aj (T ?_)
 refine TC (λhb h=>?_) λhb h=>?_
 ·refine T ?_
  refine aL [] false (.c (0,.q) (.c (1,.q) (.c (2,.q) (.c (3,.q) (.c (4,.q) (.c (5,.q) .n)))))) hI (by kernel_rfl) (by kernel_rfl) ?_
  intro w2 hI
  refine V ?_
  obtain⟨ho1,h⟩:=fT h
  refine iq rfl gn rfl (λw'=>yr rfl et et ho1) ?_
  refine V ?_
  refine pp ?_
  exact kl (fuel1,b2,Int.tmod a2 b2)
 refine bl ?_
 refine eZ ?_
 refine aS ?_
 exact RF
theorem CZ (hF:dF F w0) {t1:bu} (hc:AllCl [] F w0) {r:Int} (h:nY t1=some r):CR F w0 218 #[(Value.agg (fV t1))] (vi r) []:=by
 refine EN Tryz.func218 Tryz.ntmps218 hF hc λhI=>?_
 rw[nY]at h
 refine sr (lX λb1 c2 w1 hI=>?_)
 refine T ?_
 obtain⟨ho1,h⟩:=fT h
 refine sq (DB rfl ah et ho1) ?_
 exact RF
theorem F9 (hF:dF F w0) {a1 b1:Int} (hc:AllCl [] F w0) {r:Int} (h:si a1 b1=some r):CR F w0 238 #[vi a1,vi b1] (vi r) []:=by
 refine EN Tryz.func238 Tryz.ntmps238 hF hc λhI=>?_
 rw[si]at h
 refine T ?_
 refine aj (T ?_)
 refine bk (α:=Nat×Int×Int) (λx=>λw=>∃ C,Bun cH F w0 C w [] []∧lu (x.1) (x.2.1) (x.2.2)=some r) (λx _=>x.1) (λx=>[(0,vi (x.2.1)),(1,vi (x.2.2))]) (fu,a1,b1) BH SB ?_
 clear h hI;rintro⟨fuel1,a2,b2⟩ w1 ⟨c1,hI,h⟩
 dsimp only at hI h ⊢
 rcases fuel1 with _ | fuel1
 ·rw[lu]at h;cases h
 rw[lu]at h
 refine aj (T ?_)
 refine TC (λhb h=>?_) λhb h=>?_
 ·refine T ?_
  refine aL [] false (.c (0,.q) (.c (1,.q) (.c (2,.q) (.c (3,.q) (.c (4,.q) (.c (5,.q) .n)))))) hI (by kernel_rfl) (by kernel_rfl) ?_
  intro w2 hI
  refine V ?_
  obtain⟨ho1,h⟩:=fT h
  refine iq rfl gn rfl (λw'=>yr rfl et et ho1) ?_
  refine V ?_
  refine pp ?_
  exact kl (fuel1,b2,Int.tmod a2 b2)
 refine bl ?_
 refine eZ ?_
 refine aS ?_
 exact RF
theorem vy (hF:dF F w0) {t1:bu} {v1:co} (hc:AllCl [] F w0) {r:Bool} (h:nt t1 v1=some r):CR F w0 215 #[(Value.agg (fV t1)),(Value.agg (sT v1))] (vb r) []:=by
 refine EN Tryz.func215 Tryz.ntmps215 hF hc λhI=>?_
 rw[nt]at h
 refine sr (lX λb1 c2 w1 hI=>?_)
 refine lX λb2 c4 w2 hI=>?_
 refine T ?_
 refine aj (T ?_)
 refine TC (λhb h=>?_) λhb h=>?_
 ·refine T ?_
  obtain⟨ho1,h⟩:=fT h
  refine sq (DB rfl ah et ho1) ?_
  obtain⟨half1,hx1,h⟩:=ab h
  refine sq (vz (cx rfl et) (congrArg (Value.int .i64) (ak hx1))) ?_
  exact RF
 refine T ?_
 refine aj (T ?_)
 refine TR λhb h=>?_
 refine T ?_
 refine aj (T ?_)
 refine TR λhb h=>?_
 refine T ?_
 refine sq (Iz rfl et et) ?_
 refine T ?_
 refine sB h (λ_ k=>F9 hI.lt trivial k) (Rc Tryz.func238) λr1 w3 h hI=>?_
 exact RF
end Go.Proofs.YtmhoikfoogemnaaGreatDoor
