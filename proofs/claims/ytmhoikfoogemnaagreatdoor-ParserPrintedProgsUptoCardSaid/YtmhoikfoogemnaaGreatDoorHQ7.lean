/- ParserPrintedProgs (brocade/brocadelaw16.ParserPrintedProgs): the call returns true for every input of the row, and leaves its arguments as they were. Conditions: those of the given row; its second form: what it reads is of bulk at most 1048576. -/
import Derived.Test.YtmhoikfoogemnaaGreatDoorCards
import Derived.Test.YtmhoikfoogemnaaGreatDoorTie
import Derived.ProofKit
import Derived.OpenShut
import Derived.Carry
import Derived.LaidMore
import Derived.Deep.DeepHandedRow
import Derived.Deep.DeepWitnessRowRef
import Derived.Lib.LaidTab
import Derived.Lib.LaidU8
import Derived.Test.YtmhoikfoogemnaaGreatDoorHOp
import Derived.Test.YtmhoikfoogemnaaGreatDoorHCQ8j
import Derived.Test.YtmhoikfoogemnaaGreatDoorHRn
namespace Go.Proofs.YtmhoikfoogemnaaGreatDoor.parserPrintedProgs
open Go.ChangeShapes Go.WideShapes Go.ChangeAt Go.RowKit Go.Vc
open Go.ChangeMaps (open_string shut_string)
theorem laidOut:laidOutB Tryz.prog=true:=by kernel_rfl
theorem own:ownKnob Tryz.prog.godebug=none:=by kernel_rfl
theorem gTType_clSpace:(Tryz.prog.globals[0]?).map (·.type)=some 239:=by kernel_rfl
theorem cellsA_clSpace:Tryz.prog.cellsOf 239=256:=by kernel_rfl
theorem cellsE_clSpace:Tryz.prog.cellsOf 5=1:=by kernel_rfl
set_option maxRecDepth 100000 in
/-- What the row's list gives: the table. -/
theorem tabs_clSpace {w:World} (h:laidMetH Tryz.prog Rows.parserPrintedProgsUptoRow.laid w):au.p cH w:=by
  obtain⟨ps,⟨g0,t0,cs0,f0,p0,q0,hg0,ht0,hv0,hd0,⟨g1,t1,cs1,f1,p1,q1,hg1,ht1,hv1,hd1,⟨g2,t2,cs2,f2,p2,q2,hg2,ht2,hv2,hd2,⟨g3,t3,cs3,f3,p3,q3,hg3,ht3,hv3,hd3,⟨g4,t4,cs4,f4,p4,q4,hg4,ht4,hv4,hd4,⟨g5,t5,cs5,f5,p5,q5,hg5,ht5,hv5,hd5,⟨g6,t6,cs6,f6,p6,q6,hg6,ht6,hv6,hd6,_,_⟩,_⟩,_⟩,_⟩,_⟩,_⟩,_⟩,_⟩:=h
  obtain rfl:=Option.some.inj (FQ.symm.trans hg6)
  obtain rfl:=Option.some.inj (gTType_clSpace.symm.trans ht6)
  have h2:=Lib.cells_of_tab (k:= .u8) (zs:=Lib.asciiSpaceTab) Tryz.underlying239 Tryz.underlying5 cellsE_clSpace cellsA_clSpace hd6
  refine tabCl.start FQ ?_
  show w.var? Tryz.prog "strings.asciiSpace" =_
  rw[hv6]
  exact congrArg some (Array.ext' (by simpa using h2))
set_option maxRecDepth 100000 in
theorem door_met (os:Os) (args:Array Value):laidMet Tryz.prog Rows.parserPrintedProgsUptoRow.laid ((World.doorLaid Tryz.prog 400 os).forCall (λ_ _=>0) ⟨#[],args,[]⟩).memory:=
  laidMet_of_run' 8 (by kernel_rfl) (by kernel_rfl)
theorem bulkAll {H:Type} :∀ (xs:List (DataW H)),Rows.uptoBulkAll xs=(xs.map Rows.uptoBulk).sum
  | []=>by simp[Rows.uptoBulkAll]
  | x::xs=>by rw[Rows.uptoBulkAll,bulkAll xs,List.map_cons,List.sum_cons]
theorem bulk_pos {H:Type} (d:DataW H):1≤Rows.uptoBulk d:=by
  cases d with
  | lit l=>cases l<;>simp[Rows.uptoBulk]
  | _=>simp[Rows.uptoBulk]
/-- The bulk, as a measure of what is read. -/
def upM:Mh where
  f:=Rows.uptoBulk
  pos:=bulk_pos
  str l:=by simp[Rows.uptoBulk]
  sl xs ys:=by rw[Rows.uptoBulk,bulkAll];omega
  agg xs:=by rw[Rows.uptoBulk,bulkAll];omega
set_option maxRecDepth 100000 in
theorem witness_row (os:Os) {H:Type} (enc:TypeId×Value→H):
    (Rows.OpenSpec.upto Rows.parserPrintedProgsSpec).preRow enc Tryz.prog Tryz.f9 Rows.parserPrintedProgsUptoRow.domain false Rows.parserPrintedProgsUptoRow.laid ((World.doorLaid Tryz.prog 400 os).forCall (λ_ _=>0) ⟨#[],#[.agg #[.slice none 0 0,.slice none 0 0,.slice none 0 0,.slice none 0 0,.slice none 0 0]],[]⟩).memory #[.agg #[.slice none 0 0,.slice none 0 0,.slice none 0 0,.slice none 0 0,.slice none 0 0]]:=by
  have hw:(DataW.whole enc Tryz.prog ((World.doorLaid Tryz.prog 400 os).forCall (λ_ _=>0) ⟨#[],#[.agg #[.slice none 0 0,.slice none 0 0,.slice none 0 0,.slice none 0 0,.slice none 0 0]],[]⟩).memory Tryz.f9.params.toList Rows.parserPrintedProgsSpec.vars false (#[.agg #[.slice none 0 0,.slice none 0 0,.slice none 0 0,.slice none 0 0,.slice none 0 0]]:Array Value).toList 8).map (λx=>(x.1,x.2.1))=some ([.agg [.nil,.nil,.nil,.nil,.nil]],[]):=by kernel_rfl
  obtain⟨⟨x1,x2,x3⟩,hx,hx1⟩:=Option.map_eq_some_iff.1 hw
  simp only[Prod.mk.injEq]at hx1
  obtain⟨rfl,rfl⟩:=hx1
  exact OpenSpec.preRow_of_cond 8 hx (by kernel_rfl) (λk hk=>by cases hk;kernel_rfl) (by kernel_rfl) (door_met os _)
set_option maxRecDepth 100000 in
set_option maxHeartbeats 4000000 in
theorem lifted (os:Os) (started:os.Started) (H:Type) (enc:TypeId×Value→H) (F:Stop.Interp):
    ReturnsInHanded {} Tryz.checked os 9 .any ((Rows.OpenSpec.upto Rows.parserPrintedProgsSpec).preRow enc Tryz.prog Tryz.f9 Rows.parserPrintedProgsUptoRow.domain false Rows.parserPrintedProgsUptoRow.laid) (((Rows.OpenSpec.upto Rows.parserPrintedProgsSpec).at F).post enc Tryz.prog Tryz.f9 false true false false):=by
  refine returnsInHanded_of_row (C:=Tryz.checked) (s:=Rows.OpenSpec.upto Rows.parserPrintedProgsSpec) own started (by kernel_rfl) Tryz.func9
    (witness_row_atRef (enc:=enc) (C:=Tryz.checked) false (World.doorLaid Tryz.prog 400 os) #[.agg #[.slice none 0 0,.slice none 0 0,.slice none 0 0,.slice none 0 0,.slice none 0 0]] rfl (by kernel_rfl) (by kernel_rfl) (by kernel_rfl) (witness_row os enc)) ?_
  intro W base args ds gs before hval0 hW _ hk hWt hL _ _
  have hval:∀ (j:Nat) t v,Tryz.f9.params[j]? =some t→args[j]? =some v→Value.okWide Tryz.prog W .any base t v:=hval0
  have hW':=hW
  obtain⟨p,q,hA0,hV0,rfl,_,_⟩:=hW
  have hA:DataW.TrodAll enc Tryz.prog W 0 (λ_=>true) true Tryz.f9.params.toList args.toList ds p:=hA0
  rw[Tryz.params9]at hA hval
  obtain⟨v0,vs0,d0,ds0,p0,q0,hargs,rfl,rfl,h0,r0⟩:=trodAll_cons hA
  obtain⟨rfl,rfl,rfl⟩:=trodAll_nil r0
  obtain rfl:args= #[v0]:=by cases args;simp_all
  obtain⟨rfl,rfl⟩:=trodVars_none hV0
  replace hWt:(DataW.weightsEach Tryz.prog (Tryz.f9.params.toList++ _) ([d0]++[])).all (· ≤reachBytes)=true:=hWt
  rw[Tryz.params9]at hWt
  obtain⟨cs0,rfl⟩:=Qj (by rw[Tryz.underlying55]) (hval 0 55 v0 rfl rfl)
  obtain⟨s0,hr0,ok0,sz0⟩:=OpnB.arg (λN=>(NO _)) h0 (yw hWt (i:=0) rfl rfl)
  obtain⟨A0_1,c0_2,A0_3,c0_4,A0_5,c0_6,A0_7,c0_8,A0_9,c0_10,hr0,hf0_0,hf0_1,hf0_2,hf0_3,hf0_4⟩:=hr0
  obtain rfl:cs0= #[(Value.slice A0_1 s0.Sizes.length c0_2),(Value.slice A0_3 s0.Where.length c0_4),(Value.slice A0_5 s0.Params.length c0_6),(Value.slice A0_7 s0.Defs.length c0_8),(Value.slice A0_9 s0.Outs.length c0_10)]:=Array.toList_inj.1 hr0
  have hb:=of_decide_eq_true (hk _ rfl)
  simp only[Rows.uptoBulkAll,Rows.uptoBulk,List.append_nil,List.cons_append,List.nil_append]at hb
  have hz0:=sz0 upM
  replace hz0:_ +1≤Rows.uptoBulk d0:=hz0
  refine(qA cH W (λ_ h=>h.elim) s0 A0_1 c0_2 A0_3 c0_4 A0_5 c0_6 A0_7 c0_8 A0_9 c0_10 ⟨hf0_0,hf0_1,hf0_2,hf0_3,hf0_4,tabs_clSpace hL,af⟩ true (sn s0 ok0 (by omega))).mono λe W' ⟨he,bel,_⟩=>?_
  subst he
  have hlt:∀ x∈(p0++[]:List MemPlace),x.block<W.heap.size:=λx hx=>hA0.lt x hx
  refine⟨_,rfl,_,_,_,[],_,[],hW',?_,⟨p0,_,Below.trod laidOut (by kernel_rfl) (by decide+kernel) h0 bel (λx hx=>hlt x (List.mem_append_left _ hx)),rfl,rfl⟩,?_,bel.frame _,λh=>by cases h⟩
  · exact trodAll_mk1 (shut_bool Tryz.underlying4 _)
  · rfl
theorem j_inPlace:(Rows.parserPrintedProgsUptoRow.inPlace==Tryz.prog.inPlace 9)=true:=by kernel_rfl
theorem j_unfollowed:(Rows.parserPrintedProgsUptoRow.unfollowed==Tryz.prog.unfollowed 9)=true:=by kernel_rfl
theorem j_recurses:(Rows.parserPrintedProgsUptoRow.recurses==Tryz.prog.recurses 9)=true:=by kernel_rfl
theorem j_named:(Rows.parserPrintedProgsUptoRow.named==Tryz.prog.varsNamed 9)=true:=by kernel_rfl
theorem joined:joinedFacts Tryz.prog 9 Tryz.f9 (Rows.OpenSpec.upto Rows.parserPrintedProgsSpec).bare Rows.parserPrintedProgsUptoRow=true:=by
  unfold joinedFacts
  rw[j_inPlace,j_unfollowed,j_recurses,j_named]
  kernel_rfl
theorem saidUpto:Rows.ParserPrintedProgsUptoSaid:=
  OpenClaim.holds_of_cond 9 Tryz.f9 rfl rfl rfl rfl rfl rfl rfl ⟨rfl,rfl,rfl,rfl,rfl⟩ rfl rfl rfl rfl rfl (by kernel_rfl) Tryz.func9 joined
    (of_decide_eq_true (by kernel_rfl)) (by unfold Func.isWrapper;first | (rw[if_pos (by decide+kernel)];kernel_rfl) | (rw[if_neg (by decide+kernel)];exact⟨rfl,rfl⟩))
    (λos started H enc _ F=>by rw[OpenClaim.pre_eq_preRow];exact lifted os started H enc F)
theorem plain (f:FuncId) (fn:Func) (hf:Tryz.pinned.checked.prog.funcNamed "brocade/brocadelaw16.ParserPrintedProgs" =some f) (hfn:Tryz.pinned.checked.prog.funcs[f]? =some fn):
    true=Tryz.pinned.checked.prog.looks []∧∀ (j:Nat) t,fn.params[j]? =some t→Tryz.pinned.checked.prog.wantsStandIn t=false:=by
      obtain rfl:f=9:=Option.some.inj ((show Tryz.prog.funcNamed "brocade/brocadelaw16.ParserPrintedProgs" =some 9 by kernel_rfl).symm.trans hf) |>.symm
      obtain rfl:fn=Tryz.f9:=(Option.some.inj (Tryz.func9.symm.trans hfn)).symm
      refine⟨by kernel_rfl,λj t ht=>?_⟩
      rw[Tryz.params9]at ht
      have hm:t∈[55]:=by simpa using Array.mem_of_getElem? ht
      exact(show ∀ t∈[55],Tryz.prog.wantsStandIn t=false from λt ht=>by
        simp only[List.mem_cons,List.not_mem_nil,or_false]at ht
        rcases ht with rfl<;>kernel_rfl) t hm
theorem cardUpto:Rows.ParserPrintedProgsUptoCardSaid:=
      Claim7.holds_tied_plain_at .later [] _ _ _ _ saidUpto (λ_ h=>by cases h) (by kernel_rfl) (λ_ h=>by cases h) parserPrintedProgsUpto_row_tie rfl ⟨rfl,rfl⟩ (by kernel_rfl) rfl plain (by kernel_rfl)
end Go.Proofs.YtmhoikfoogemnaaGreatDoor.parserPrintedProgs
