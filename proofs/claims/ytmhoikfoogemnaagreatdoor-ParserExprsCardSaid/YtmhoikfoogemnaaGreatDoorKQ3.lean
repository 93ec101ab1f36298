/- ParserExprs (brocade/brocadelaw16.ParserExprs): the call returns true for every input of the row, and leaves its arguments as they were. Conditions: those of the given row. -/
import Derived.Test.YtmhoikfoogemnaaGreatDoorCards
import Derived.Test.YtmhoikfoogemnaaGreatDoorTie
import Derived.ProofKit
import Derived.OpenShut
import Derived.Carry
import Derived.LaidMore
import Derived.Deep.DeepHandedRow
import Derived.Deep.DeepWitnessRowRef
import Derived.Lib.LaidTab
import Derived.Lib.LaidU8
import Derived.Test.YtmhoikfoogemnaaGreatDoorKShelf
import Derived.Test.YtmhoikfoogemnaaGreatDoorKCQ3h
import Derived.Test.YtmhoikfoogemnaaGreatDoorKEs
namespace Go.Proofs.YtmhoikfoogemnaaGreatDoor.parserExprs
open Go.ChangeShapes Go.WideShapes Go.ChangeAt Go.RowKit Go.Vc
open Go.ChangeMaps (open_string shut_string)
theorem laidOut:laidOutB Tryz.prog=true:=by kernel_rfl
theorem own:ownKnob Tryz.prog.godebug=none:=by kernel_rfl
theorem gTType_clSpace:(Tryz.prog.globals[0]?).map (·.type)=some 239:=by kernel_rfl
theorem cellsA_clSpace:Tryz.prog.cellsOf 239=256:=by kernel_rfl
theorem cellsE_clSpace:Tryz.prog.cellsOf 5=1:=by kernel_rfl
set_option maxRecDepth 100000 in
/-- What the row's list gives: the table. -/
theorem tabs_clSpace {w:World} (h:laidMetH Tryz.prog Rows.parserExprsRow.laid w):av.p du w:=by
  obtain⟨ps,⟨g0,t0,cs0,f0,p0,q0,hg0,ht0,hv0,hd0,⟨g1,t1,cs1,f1,p1,q1,hg1,ht1,hv1,hd1,⟨g2,t2,cs2,f2,p2,q2,hg2,ht2,hv2,hd2,⟨g3,t3,cs3,f3,p3,q3,hg3,ht3,hv3,hd3,⟨g4,t4,cs4,f4,p4,q4,hg4,ht4,hv4,hd4,⟨g5,t5,cs5,f5,p5,q5,hg5,ht5,hv5,hd5,⟨g6,t6,cs6,f6,p6,q6,hg6,ht6,hv6,hd6,_,_⟩,_⟩,_⟩,_⟩,_⟩,_⟩,_⟩,_⟩:=h
  obtain rfl:=Option.some.inj (Bk.symm.trans hg6)
  obtain rfl:=Option.some.inj (gTType_clSpace.symm.trans ht6)
  have h2:=Lib.cells_of_tab (k:= .u8) (zs:=Lib.asciiSpaceTab) Tryz.underlying239 Tryz.underlying5 cellsE_clSpace cellsA_clSpace hd6
  refine tabCl.start Bk ?_
  show w.var? Tryz.prog "strings.asciiSpace" =_
  rw[hv6]
  exact congrArg some (Array.ext' (by simpa using h2))
set_option maxRecDepth 100000 in
theorem door_met (os:Os) (args:Array Value):laidMet Tryz.prog Rows.parserExprsRow.laid ((World.doorLaid Tryz.prog 400 os).forCall (fun _ _=>0) ⟨#[],args,[]⟩).memory:=
  laidMet_of_run' 8 (by kernel_rfl) (by kernel_rfl)
set_option maxRecDepth 100000 in
theorem witness_row (os:Os) {H:Type} (enc:TypeId×Value→H):
    (OpenSpec.ofChange Rows.parserExprsSpec).preRow enc Tryz.prog Tryz.f5 Rows.parserExprsRow.domain false Rows.parserExprsRow.laid ((World.doorLaid Tryz.prog 400 os).forCall (fun _ _=>0) ⟨#[],#[.string ⟨#[]⟩],[]⟩).memory #[.string ⟨#[]⟩]:=by
  have hw:(DataW.whole enc Tryz.prog ((World.doorLaid Tryz.prog 400 os).forCall (fun _ _=>0) ⟨#[],#[.string ⟨#[]⟩],[]⟩).memory Tryz.f5.params.toList Rows.parserExprsSpec.vars false (#[.string ⟨#[]⟩]:Array Value).toList 8).map (fun x=>(x.1,x.2.1))=some ([.lit (.string [])],[]):=by kernel_rfl
  obtain⟨⟨x1,x2,x3⟩,hx,hx1⟩:=Option.map_eq_some_iff.1 hw
  simp only[Prod.mk.injEq]at hx1
  obtain⟨rfl,rfl⟩:=hx1
  exact OpenSpec.preRow_of_cond 8 hx (by kernel_rfl) (fun k hk=>by cases hk) (by kernel_rfl) (door_met os _)
set_option maxRecDepth 100000 in
set_option maxHeartbeats 4000000 in
theorem lifted (os:Os) (started:os.Started) (H:Type) (enc:TypeId×Value→H) (F:Stop.Interp):
    ReturnsInHanded {} Tryz.checked os 5 .any ((OpenSpec.ofChange Rows.parserExprsSpec).preRow enc Tryz.prog Tryz.f5 Rows.parserExprsRow.domain false Rows.parserExprsRow.laid) (((OpenSpec.ofChange Rows.parserExprsSpec).at F).post enc Tryz.prog Tryz.f5 false true false false):=by
  refine returnsInHanded_of_row (C:=Tryz.checked) (s:=OpenSpec.ofChange Rows.parserExprsSpec) own started (by kernel_rfl) Tryz.func5
    (witness_row_atRef (enc:=enc) (C:=Tryz.checked) false (World.doorLaid Tryz.prog 400 os) #[.string ⟨#[]⟩] rfl (by kernel_rfl) (by kernel_rfl) (by kernel_rfl) (witness_row os enc)) ?_
  intro W base args ds gs before hval0 hW _ hk hWt hL _ _
  have hval:∀ (j:Nat) t v,Tryz.f5.params[j]? =some t→args[j]? =some v→Value.okWide Tryz.prog W .any base t v:=hval0
  have hW':=hW
  obtain⟨p,q,hA0,hV0,rfl,_,_⟩:=hW
  have hA:DataW.TrodAll enc Tryz.prog W 0 (fun _=>true) true Tryz.f5.params.toList args.toList ds p:=hA0
  rw[Tryz.params5]at hA hval
  obtain⟨v0,vs0,d0,ds0,p0,q0,hargs,rfl,rfl,h0,r0⟩:=trodAll_cons hA
  obtain⟨rfl,rfl,rfl⟩:=trodAll_nil r0
  obtain rfl:args= #[v0]:=by cases args;simp_all
  obtain⟨rfl,rfl⟩:=trodVars_none hV0
  replace hWt:(DataW.weightsEach Tryz.prog (Tryz.f5.params.toList++ _) ([d0]++[])).all (· ≤reachBytes)=true:=hWt
  rw[Tryz.params5]at hWt
  obtain⟨s0,rfl,rfl,rfl,ws0⟩:=open_string Tryz.underlying9 (hval 0 9 v0 rfl rfl) h0
  have ok0:okS s0.data.toList:=by show s0.data.toList.length≤maxLen;rw[Array.length_toList];exact ws0
  refine(rD du W (fun _ h=>h.elim) s0.data.toList ⟨tabs_clSpace hL,trivial⟩ true (uE s0.data.toList ok0)).mono fun e W' ⟨he,bel,_⟩=> ?_
  subst he
  have hlt:∀ x∈([]++[]:List MemPlace),x.block<W.heap.size:=fun x hx=>hA0.lt x hx
  refine⟨_,rfl,_,_,_,[],_,[],hW',?_,⟨[],_,Below.trod laidOut (by kernel_rfl) (by decide+kernel) h0 bel (fun x hx=>hlt x (List.mem_append_left _ hx)),rfl,rfl⟩,?_,bel.frame _,fun h=>by cases h⟩
  · exact trodAll_mk1 (shut_bool Tryz.underlying4 _)
  · rfl
theorem j_inPlace:(Rows.parserExprsRow.inPlace==Tryz.prog.inPlace 5)=true:=by kernel_rfl
theorem j_unfollowed:(Rows.parserExprsRow.unfollowed==Tryz.prog.unfollowed 5)=true:=by kernel_rfl
theorem j_recurses:(Rows.parserExprsRow.recurses==Tryz.prog.recurses 5)=true:=by kernel_rfl
theorem j_named:(Rows.parserExprsRow.named==Tryz.prog.varsNamed 5)=true:=by kernel_rfl
theorem joined:joinedFacts Tryz.prog 5 Tryz.f5 (OpenSpec.ofChange Rows.parserExprsSpec).bare Rows.parserExprsRow=true:=by
  unfold joinedFacts
  rw[j_inPlace,j_unfollowed,j_recurses,j_named]
  kernel_rfl
theorem said:Rows.ParserExprsSaid:=
  OpenClaim.holds_of_cond 5 Tryz.f5 rfl rfl rfl rfl rfl rfl rfl ⟨rfl,rfl,rfl,rfl,rfl⟩ rfl rfl rfl rfl rfl (by kernel_rfl) Tryz.func5 joined
    (of_decide_eq_true (by kernel_rfl)) (by unfold Func.isWrapper;first | (rw[if_pos (by decide+kernel)];kernel_rfl) | (rw[if_neg (by decide+kernel)];exact⟨rfl,rfl⟩))
    (fun os started H enc _ F=>by rw[OpenClaim.pre_eq_preRow];exact lifted os started H enc F)
theorem plain (f:FuncId) (fn:Func) (hf:Tryz.pinned.checked.prog.funcNamed "brocade/brocadelaw16.ParserExprs" =some f) (hfn:Tryz.pinned.checked.prog.funcs[f]? =some fn):
    true=Tryz.pinned.checked.prog.looks []∧∀ (j:Nat) t,fn.params[j]? =some t→Tryz.pinned.checked.prog.wantsStandIn t=false:=by
      obtain rfl:f=5:=Option.some.inj ((show Tryz.prog.funcNamed "brocade/brocadelaw16.ParserExprs" =some 5 by kernel_rfl).symm.trans hf) |>.symm
      obtain rfl:fn=Tryz.f5:=(Option.some.inj (Tryz.func5.symm.trans hfn)).symm
      refine⟨by kernel_rfl,fun j t ht=> ?_⟩
      rw[Tryz.params5]at ht
      have hm:t∈[9]:=by simpa using Array.mem_of_getElem? ht
      exact(show ∀ t∈[9],Tryz.prog.wantsStandIn t=false from fun t ht=>by
        simp only[List.mem_cons,List.not_mem_nil,or_false]at ht
        rcases ht with rfl<;>kernel_rfl) t hm
theorem card:Rows.ParserExprsCardSaid:=
      Claim7.holds_tied_plain_at .later [] _ _ _ _ said (fun _ h=>by cases h) (by kernel_rfl) (fun _ h=>by cases h) parserExprs_row_tie rfl ⟨rfl,rfl⟩ (by kernel_rfl) rfl plain (by kernel_rfl)
end Go.Proofs.YtmhoikfoogemnaaGreatDoor.parserExprs
