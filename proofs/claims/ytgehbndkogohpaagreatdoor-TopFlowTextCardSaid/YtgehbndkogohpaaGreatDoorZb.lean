/- TopFlowText: a flow that was written as a fact is what permissions follow: a wafer of its product can begin with step 0 exactly if nothing is wrong with the flow, and its first act is permitted then, once the chamber is qualified: for every input; the listed package-level variables (tables and errors of the library's) read as the program's text lays them. -/
import Derived.Test.YtgehbndkogohpaaGreatDoorYl
import Derived.Test.YtgehbndkogohpaaGreatDoorYo
import Derived.Test.YtgehbndkogohpaaGreatDoorTie
import Derived.Test.YtgehbndkogohpaaGreatDoorCards
import Derived.ProofKit
import Derived.LaidOnce
import Derived.SevenTiedAt
namespace Go.Proofs.YtgehbndkogohpaaGreatDoor
open Go Go.K Go.RowKit Go.ChangeShapes Go.WideShapes Go.ChangeAt
set_option maxRecDepth 100000
theorem u2(os:Os)(started:os.Started)(H:Type)(enc:TypeId×Value→H):
  ReturnsInHanded {} Tryz.checked os 4 .any (fun w args=>(Rows.topFlowTextSpec.pre enc Tryz.prog Tryz.f4 [] false w args∧laidMetH Tryz.prog uH w)∧sizedMet enc Tryz.prog Tryz.f4 (OpenSpec.ofChange Rows.topFlowTextSpec) false w args)
   (Rows.topFlowTextSpec.post enc Tryz.prog Tryz.f4 false true false false):=by
 refine pU (C:=Tryz.checked) (X:=fun w _=>laidMetH Tryz.prog uH w) (fun _ _ _ hh h=>h.of_heap hh) x9 started (by kernel_rfl) Tryz.func4
  (ChangeSpec.witness_shaped (enc:=enc) (C:=Tryz.checked) (os:=os) (X:=fun w _=>laidMetH Tryz.prog uH w) false (World.laidAll Tryz.prog os uH) #[.slice none 0 0,.int .i64 0] 8 (World.laidAll_os _ _ _)
   (World.shaped_of_ZipB (by kernel_rfl) (by kernel_rfl)) (by kernel_rfl) (by kernel_rfl) (by kernel_rfl) (Is os _)) ?_
 intro W args ds gs before QR hW hL nN;have fu: ∀(j:Nat) t v,Tryz.f4.params[j]? =some t→args[j]? =some v→ ∃base,Value.okWide Tryz.prog W .any base t v:=QR;have Yj:=hW;obtain⟨p,q,Yk,hV,rfl,ZH,za⟩:=hW;have hA:DataW.TrodAll enc Tryz.prog W 0 (fun _=>true) true Tryz.f4.params.toList args.toList ds p:=Yk;rw[Tryz.params4]at hA fu;obtain⟨v0,v1,d0,d1,p0,p1,rfl,rfl,rfl,h0,h1⟩:=trodAll_two hA;obtain⟨rfl,rfl⟩:=trodVars_none hV;obtain⟨_,k0⟩:=fu 0 22 v0 rfl rfl;obtain⟨x0,aH,Yl⟩:=uI k0 h0;obtain⟨_,k1⟩:=fu 1 3 v1 rfl rfl;obtain⟨a1,rfl,Zt⟩:=qM k1 h1;rw[MakeChecks.laidMetH_plain _ _ _ (by kernel_rfl)]at hL;exact Bs (by kernel_rfl) rfl rfl (by kernel_rfl) Yj (Ap v0 x0 a1 (vH W) (PZ hL nN) aH Yl Zt)
theorem yN:(Rows.topFlowTextRow.inPlace==Tryz.prog.inPlace 4)=true:=by kernel_rfl
theorem yO:(Rows.topFlowTextRow.unfollowed==Tryz.prog.unfollowed 4)=true:=by kernel_rfl
theorem yP:(Rows.topFlowTextRow.recurses==Tryz.prog.recurses 4)=true:=by kernel_rfl
theorem yQ:(Rows.topFlowTextRow.named==Tryz.prog.varsNamed 4)=true:=by kernel_rfl
theorem yR:(Rows.topFlowTextRow.wf (OpenSpec.ofChange Rows.topFlowTextSpec)&&Tryz.f4.params.all (Tryz.prog.readableRec ·)&&namedTie Tryz.prog Rows.topFlowTextRow.named Rows.topFlowTextSpec.vars)=true:=by kernel_rfl
theorem xh:mapsRowed Tryz.prog=true:=by kernel_rfl
theorem y':(Tryz.prog.mayEnter&&(Rows.topFlowTextRow.lifted==Tryz.prog.liftsFinal)&&(Tryz.prog.make==some Rows.topFlowTextRow.make))=true:=by kernel_rfl
theorem zG:((Rows.topFlowTextRow.plainKeys==Tryz.prog.plainKeys)&&Tryz.prog.stopsHeard&&(Tryz.prog.stops==[])&&(Tryz.prog.stopKnobs==[]))=true:=by kernel_rfl
theorem uc:Tryz.prog.funcNamed Rows.topFlowTextRow.func=some 4:=by kernel_rfl
theorem Aa:Tryz.prog.mainIs=some (true, "8dabaefc02998928514a6f3228580a40fa6fbd2eb7845c55793bc2e91795409e".toList):=by kernel_rfl
theorem xn:true=Tryz.prog.looks []:=by kernel_rfl
theorem xr:false=Rows.topFlowTextRow.goesBy Tryz.prog:=by kernel_rfl
theorem xP:Rows.TopFlowTextSaid:=
 OpenClaim.holds_of_wide 4 Tryz.f4 rfl rfl rfl rfl rfl rfl rfl ⟨rfl,rfl,rfl,rfl,rfl⟩ rfl rfl rfl rfl rfl uc Tryz.func4 (DW yN yO yP yQ yR laidOut xh y' zG (by kernel_rfl))
  (of_decide_eq_true (by kernel_rfl)) (by unfold Func.isWrapper;first|(rw[if_pos (by decide+kernel)];kernel_rfl)|(rw[if_neg (by decide+kernel)];exact⟨rfl,rfl⟩))
  (fun os started H enc _=>u2 os started H enc)
theorem flowText_holds:Rows.TopFlowTextCardSaid:=
 Claim7.holds_tied_plain_at .later [] [.data,.data,.data,.data,.sentinel,.sentinel,.pinned] true (true, "8dabaefc02998928514a6f3228580a40fa6fbd2eb7845c55793bc2e91795409e") true
  xP (fun _ h=>by cases h) (by kernel_rfl) (fun _ h=>by cases h) topFlowText_row_tie rfl ⟨rfl,rfl⟩ Aa rfl
  (fun f fn hf H0=>by
   obtain rfl:f=4:=Option.some.inj ((show Tryz.prog.funcNamed "cleanroom/cleanroomtop.TopFlowText" =some 4 from uc).symm.trans hf)|>.symm;obtain rfl:fn=Tryz.f4:=(Option.some.inj (Tryz.func4.symm.trans H0)).symm;exact⟨xn,fun j t ht=>by
    rw[Tryz.params4]at ht;have hm:t∈[22,3]:=by simpa using Array.mem_of_getElem? ht
    have cR:([22,3].all fun u=> !Tryz.prog.wantsStandIn u)=true:=by kernel_rfl
    exact(show Tryz.prog.wantsStandIn t=false by simpa using List.all_eq_true.1 cR t hm)⟩)
  xr
end Go.Proofs.YtgehbndkogohpaaGreatDoor
