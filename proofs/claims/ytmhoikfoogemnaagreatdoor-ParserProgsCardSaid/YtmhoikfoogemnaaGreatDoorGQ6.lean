/- ParserProgs (brocade/brocadelaw16.ParserProgs): the call returns true for every input of the row, and leaves its arguments as they were. Conditions: those of the given row. -/
import Derived.Test.YtmhoikfoogemnaaGreatDoorCards
import Derived.Test.YtmhoikfoogemnaaGreatDoorTie
import Derived.ProofKit
import Derived.OpenShut
import Derived.Carry
import Derived.LaidMore
import Derived.Deep.DeepHandedRow
import Derived.Deep.DeepWitnessRowRef
import Derived.Lib.LaidTab
import Derived.Lib.LaidU8
import Derived.Test.YtmhoikfoogemnaaGreatDoorGShelf
import Derived.Test.YtmhoikfoogemnaaGreatDoorGCQ8j
import Derived.Test.YtmhoikfoogemnaaGreatDoorGSc
namespace Go.Proofs.YtmhoikfoogemnaaGreatDoor.parserProgs
open Go.ChangeShapes Go.WideShapes Go.ChangeAt Go.RowKit Go.Vc
open Go.ChangeMaps (open_string shut_string)
theorem laidOut:laidOutB Tryz.prog=true:=by kernel_rfl
theorem own:ownKnob Tryz.prog.godebug=none:=by kernel_rfl
theorem gTType_clSpace:(Tryz.prog.globals[0]?).map (·.type)=some 239:=by kernel_rfl
theorem cellsA_clSpace:Tryz.prog.cellsOf 239=256:=by kernel_rfl
theorem cellsE_clSpace:Tryz.prog.cellsOf 5=1:=by kernel_rfl
set_option maxRecDepth 100000 in
/-- What the row's list gives: the table. -/
theorem tabs_clSpace {w:World} (h:laidMetH Tryz.prog Rows.parserProgsRow.laid w):aA.p du w:=by
  obtain⟨ps,⟨g0,t0,cs0,f0,p0,q0,hg0,ht0,hv0,hd0,⟨g1,t1,cs1,f1,p1,q1,hg1,ht1,hv1,hd1,⟨g2,t2,cs2,f2,p2,q2,hg2,ht2,hv2,hd2,⟨g3,t3,cs3,f3,p3,q3,hg3,ht3,hv3,hd3,⟨g4,t4,cs4,f4,p4,q4,hg4,ht4,hv4,hd4,⟨g5,t5,cs5,f5,p5,q5,hg5,ht5,hv5,hd5,⟨g6,t6,cs6,f6,p6,q6,hg6,ht6,hv6,hd6,_,_⟩,_⟩,_⟩,_⟩,_⟩,_⟩,_⟩,_⟩:=h
  obtain rfl:=Option.some.inj (DV.symm.trans hg6)
  obtain rfl:=Option.some.inj (gTType_clSpace.symm.trans ht6)
  have h2:=Lib.cells_of_tab (k:= .u8) (zs:=Lib.asciiSpaceTab) Tryz.underlying239 Tryz.underlying5 cellsE_clSpace cellsA_clSpace hd6
  refine tabCl.start DV ?_
  show w.var? Tryz.prog "strings.asciiSpace" =_
  rw[hv6]
  exact congrArg some (Array.ext' (by simpa using h2))
set_option maxRecDepth 100000 in
theorem door_met (os:Os) (args:Array Value):laidMet Tryz.prog Rows.parserProgsRow.laid ((World.doorLaid Tryz.prog 400 os).forCall (λ_ _=>0) ⟨#[],args,[]⟩).memory:=
  laidMet_of_run' 8 (by kernel_rfl) (by kernel_rfl)
set_option maxRecDepth 100000 in
theorem witness_row (os:Os) {H:Type} (enc:TypeId×Value→H):
    (OpenSpec.ofChange Rows.parserProgsSpec).preRow enc Tryz.prog Tryz.f8 Rows.parserProgsRow.domain false Rows.parserProgsRow.laid ((World.doorLaid Tryz.prog 400 os).forCall (λ_ _=>0) ⟨#[],#[.string ⟨#[]⟩],[]⟩).memory #[.string ⟨#[]⟩]:=by
  have hw:(DataW.whole enc Tryz.prog ((World.doorLaid Tryz.prog 400 os).forCall (λ_ _=>0) ⟨#[],#[.string ⟨#[]⟩],[]⟩).memory Tryz.f8.params.toList Rows.parserProgsSpec.vars false (#[.string ⟨#[]⟩]:Array Value).toList 8).map (λx=>(x.1,x.2.1))=some ([.lit (.string [])],[]):=by kernel_rfl
  obtain⟨⟨x1,x2,x3⟩,hx,hx1⟩:=Option.map_eq_some_iff.1 hw
  simp only[Prod.mk.injEq]at hx1
  obtain⟨rfl,rfl⟩:=hx1
  exact OpenSpec.preRow_of_cond 8 hx (by kernel_rfl) (λk hk=>by cases hk) (by kernel_rfl) (door_met os _)
set_option maxRecDepth 100000 in
set_option maxHeartbeats 4000000 in
theorem lifted (os:Os) (started:os.Started) (H:Type) (enc:TypeId×Value→H) (F:Stop.Interp):
    ReturnsInHanded {} Tryz.checked os 8 .any ((OpenSpec.ofChange Rows.parserProgsSpec).preRow enc Tryz.prog Tryz.f8 Rows.parserProgsRow.domain false Rows.parserProgsRow.laid) (((OpenSpec.ofChange Rows.parserProgsSpec).at F).post enc Tryz.prog Tryz.f8 false true false false):=by
  refine returnsInHanded_of_row (C:=Tryz.checked) (s:=OpenSpec.ofChange Rows.parserProgsSpec) own started (by kernel_rfl) Tryz.func8
    (witness_row_atRef (enc:=enc) (C:=Tryz.checked) false (World.doorLaid Tryz.prog 400 os) #[.string ⟨#[]⟩] rfl (by kernel_rfl) (by kernel_rfl) (by kernel_rfl) (witness_row os enc)) ?_
  intro W base args ds gs before hval0 hW _ hk hWt hL _ _
  have hval:∀ (j:Nat) t v,Tryz.f8.params[j]? =some t→args[j]? =some v→Value.okWide Tryz.prog W .any base t v:=hval0
  have hW':=hW
  obtain⟨p,q,hA0,hV0,rfl,_,_⟩:=hW
  have hA:DataW.TrodAll enc Tryz.prog W 0 (λ_=>true) true Tryz.f8.params.toList args.toList ds p:=hA0
  rw[Tryz.params8]at hA hval
  obtain⟨v0,vs0,d0,ds0,p0,q0,hargs,rfl,rfl,h0,r0⟩:=trodAll_cons hA
  obtain⟨rfl,rfl,rfl⟩:=trodAll_nil r0
  obtain rfl:args= #[v0]:=by cases args;simp_all
  obtain⟨rfl,rfl⟩:=trodVars_none hV0
  replace hWt:(DataW.weightsEach Tryz.prog (Tryz.f8.params.toList++ _) ([d0]++[])).all (· ≤reachBytes)=true:=hWt
  rw[Tryz.params8]at hWt
  obtain⟨s0,rfl,rfl,rfl,ws0⟩:=open_string Tryz.underlying9 (hval 0 9 v0 rfl rfl) h0
  have ok0:okS s0.data.toList:=by show s0.data.toList.length≤maxLen;rw[Array.length_toList];exact ws0
  refine(uh du W (λ_ h=>h.elim) s0.data.toList ⟨tabs_clSpace hL,ah⟩ true (xg s0.data.toList ok0)).mono λe W' ⟨he,bel,_⟩=>?_
  subst he
  have hlt:∀ x∈([]++[]:List MemPlace),x.block<W.heap.size:=λx hx=>hA0.lt x hx
  refine⟨_,rfl,_,_,_,[],_,[],hW',?_,⟨[],_,Below.trod laidOut (by kernel_rfl) (by decide+kernel) h0 bel (λx hx=>hlt x (List.mem_append_left _ hx)),rfl,rfl⟩,?_,bel.frame _,λh=>by cases h⟩
  · exact trodAll_mk1 (shut_bool Tryz.underlying4 _)
  · rfl
theorem j_inPlace:(Rows.parserProgsRow.inPlace==Tryz.prog.inPlace 8)=true:=by kernel_rfl
theorem j_unfollowed:(Rows.parserProgsRow.unfollowed==Tryz.prog.unfollowed 8)=true:=by kernel_rfl
theorem j_recurses:(Rows.parserProgsRow.recurses==Tryz.prog.recurses 8)=true:=by kernel_rfl
theorem j_named:(Rows.parserProgsRow.named==Tryz.prog.varsNamed 8)=true:=by kernel_rfl
theorem joined:joinedFacts Tryz.prog 8 Tryz.f8 (OpenSpec.ofChange Rows.parserProgsSpec).bare Rows.parserProgsRow=true:=by
  unfold joinedFacts
  rw[j_inPlace,j_unfollowed,j_recurses,j_named]
  kernel_rfl
theorem said:Rows.ParserProgsSaid:=
  OpenClaim.holds_of_cond 8 Tryz.f8 rfl rfl rfl rfl rfl rfl rfl ⟨rfl,rfl,rfl,rfl,rfl⟩ rfl rfl rfl rfl rfl (by kernel_rfl) Tryz.func8 joined
    (of_decide_eq_true (by kernel_rfl)) (by unfold Func.isWrapper;first | (rw[if_pos (by decide+kernel)];kernel_rfl) | (rw[if_neg (by decide+kernel)];exact⟨rfl,rfl⟩))
    (λos started H enc _ F=>by rw[OpenClaim.pre_eq_preRow];exact lifted os started H enc F)
theorem plain (f:FuncId) (fn:Func) (hf:Tryz.pinned.checked.prog.funcNamed "brocade/brocadelaw16.ParserProgs" =some f) (hfn:Tryz.pinned.checked.prog.funcs[f]? =some fn):
    true=Tryz.pinned.checked.prog.looks []∧∀ (j:Nat) t,fn.params[j]? =some t→Tryz.pinned.checked.prog.wantsStandIn t=false:=by
      obtain rfl:f=8:=Option.some.inj ((show Tryz.prog.funcNamed "brocade/brocadelaw16.ParserProgs" =some 8 by kernel_rfl).symm.trans hf) |>.symm
      obtain rfl:fn=Tryz.f8:=(Option.some.inj (Tryz.func8.symm.trans hfn)).symm
      refine⟨by kernel_rfl,λj t ht=>?_⟩
      rw[Tryz.params8]at ht
      have hm:t∈[9]:=by simpa using Array.mem_of_getElem? ht
      exact(show ∀ t∈[9],Tryz.prog.wantsStandIn t=false from λt ht=>by
        simp only[List.mem_cons,List.not_mem_nil,or_false]at ht
        rcases ht with rfl<;>kernel_rfl) t hm
theorem card:Rows.ParserProgsCardSaid:=
      Claim7.holds_tied_plain_at .later [] _ _ _ _ said (λ_ h=>by cases h) (by kernel_rfl) (λ_ h=>by cases h) parserProgs_row_tie rfl ⟨rfl,rfl⟩ (by kernel_rfl) rfl plain (by kernel_rfl)
end Go.Proofs.YtmhoikfoogemnaaGreatDoor.parserProgs
