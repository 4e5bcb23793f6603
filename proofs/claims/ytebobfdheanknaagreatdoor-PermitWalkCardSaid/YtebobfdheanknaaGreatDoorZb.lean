/- PermitWalk: What is done as Next says is what Audit, Done and the steps' order say: no wafer strays.: for every input; the listed package-level variables (tables and errors of the library's) read as the program's text lays them. -/
import Derived.Test.YtebobfdheanknaaGreatDoorYn
import Derived.Test.YtebobfdheanknaaGreatDoorYo
import Derived.Test.YtebobfdheanknaaGreatDoorTie
import Derived.Test.YtebobfdheanknaaGreatDoorCards
import Derived.ProofKit
import Derived.LaidOnce
import Derived.SevenTiedAt
namespace Go.Proofs.YtebobfdheanknaaGreatDoor
open Go Go.K Go.RowKit Go.ChangeShapes Go.WideShapes Go.ChangeAt
set_option maxRecDepth 100000
theorem r5(os:Os)(started:os.Started)(H:Type)(enc:TypeId×Value→H):
  ReturnsInHanded {} Tryz.checked os 6 .any (fun w args=>(Rows.permitWalkSpec.pre enc Tryz.prog Tryz.f6 [] false w args∧laidMetH Tryz.prog tI w)∧sizedMet enc Tryz.prog Tryz.f6 (OpenSpec.ofChange Rows.permitWalkSpec) false w args)
   (Rows.permitWalkSpec.post enc Tryz.prog Tryz.f6 false true false false):=by
 refine oP (C:=Tryz.checked) (X:=fun w _=>laidMetH Tryz.prog tI w) (fun _ _ _ hh h=>h.of_heap hh) wY started (by kernel_rfl) Tryz.func6
  (ChangeSpec.witness_shaped (enc:=enc) (C:=Tryz.checked) (os:=os) (X:=fun w _=>laidMetH Tryz.prog tI w) false (World.laidAll Tryz.prog os tI) #[.slice none 0 0,.slice none 0 0] 8 (World.laidAll_os _ _ _)
   (World.shaped_of_ZipB (by kernel_rfl) (by kernel_rfl)) (by kernel_rfl) (by kernel_rfl) (by kernel_rfl) (GY os _)) ?_
 intro W args ds gs before OR hW hL mU
 have iG: ∀(j:Nat) t v,Tryz.f6.params[j]? =some t→args[j]? =some v→ ∃base,Value.okWide Tryz.prog W .any base t v:=OR
 have VQ:=hW
 obtain⟨p,q,VR,hV,rfl,Xc,AN⟩:=hW
 have hA:DataW.TrodAll enc Tryz.prog W 0 (fun _=>true) true Tryz.f6.params.toList args.toList ds p:=VR
 rw[Tryz.params6]at hA iG
 obtain⟨v0,v1,d0,d1,p0,p1,rfl,rfl,rfl,h0,h1⟩:=trodAll_two hA
 obtain⟨rfl,rfl⟩:=trodVars_none hV
 obtain⟨_,k0⟩:=iG 0 22 v0 rfl rfl
 obtain⟨x0,aH,VS⟩:=EH k0 h0
 obtain⟨_,k1⟩:=iG 1 23 v1 rfl rfl
 obtain⟨x1,aT,aN⟩:=open_ints k1 h1
 rw[MakeChecks.laidMetH_plain _ _ _ (by kernel_rfl)]at hL
 exact Ad (by kernel_rfl) rfl rfl (by kernel_rfl) VQ (He v0 x0 v1 x1 (r_ W) (N2 hL mU) aH VS aT aN)
theorem Ln:(Rows.permitWalkRow.inPlace==Tryz.prog.inPlace 6)=true:=by kernel_rfl
theorem Lo:(Rows.permitWalkRow.unfollowed==Tryz.prog.unfollowed 6)=true:=by kernel_rfl
theorem NF:(Rows.permitWalkRow.recurses==Tryz.prog.recurses 6)=true:=by kernel_rfl
theorem NG:(Rows.permitWalkRow.named==Tryz.prog.varsNamed 6)=true:=by kernel_rfl
theorem NI:(Rows.permitWalkRow.wf (OpenSpec.ofChange Rows.permitWalkSpec)&&Tryz.f6.params.all (Tryz.prog.readableRec ·)&&namedTie Tryz.prog Rows.permitWalkRow.named Rows.permitWalkSpec.vars)=true:=by kernel_rfl
theorem Ch:mapsRowed Tryz.prog=true:=by kernel_rfl
theorem O1:(Tryz.prog.mayEnter&&(Rows.permitWalkRow.lifted==Tryz.prog.liftsFinal)&&(Tryz.prog.make==some Rows.permitWalkRow.make))=true:=by kernel_rfl
theorem Pu:((Rows.permitWalkRow.plainKeys==Tryz.prog.plainKeys)&&Tryz.prog.stopsHeard&&(Tryz.prog.stops==[])&&(Tryz.prog.stopKnobs==[]))=true:=by kernel_rfl
theorem wi:Tryz.prog.funcNamed Rows.permitWalkRow.func=some 6:=by kernel_rfl
theorem PE:Tryz.prog.mainIs=some (true, "7883561ccd6e3ec7de47bbbc0187876f0e578c371406eba4874d10aebb56aee2".toList):=by kernel_rfl
theorem Ci:true=Tryz.prog.looks []:=by kernel_rfl
theorem Cq:false=Rows.permitWalkRow.goesBy Tryz.prog:=by kernel_rfl
theorem Es:Rows.PermitWalkSaid:=
 OpenClaim.holds_of_wide 6 Tryz.f6 rfl rfl rfl rfl rfl rfl rfl ⟨rfl,rfl,rfl,rfl,rfl⟩ rfl rfl rfl rfl rfl wi Tryz.func6 (CE Ln Lo NF NG NI laidOut Ch O1 Pu (by kernel_rfl))
  (of_decide_eq_true (by kernel_rfl)) (by unfold Func.isWrapper;first|(rw[if_pos (by decide+kernel)];kernel_rfl)|(rw[if_neg (by decide+kernel)];exact⟨rfl,rfl⟩))
  (fun os started H enc _=>r5 os started H enc)
theorem walk_holds:Rows.PermitWalkCardSaid:=
 Claim7.holds_tied_plain_at .later [] [.data,.data,.data,.data,.sentinel,.sentinel,.pinned] true (true, "7883561ccd6e3ec7de47bbbc0187876f0e578c371406eba4874d10aebb56aee2") true
  Es (fun _ h=>by cases h) (by kernel_rfl) (fun _ h=>by cases h) permitWalk_row_tie rfl ⟨rfl,rfl⟩ PE rfl
  (fun f fn hf Gt=>by
   obtain rfl:f=6:=Option.some.inj ((show Tryz.prog.funcNamed "cleanroom/cleanroomlaw19.PermitWalk" =some 6 from wi).symm.trans hf)|>.symm
   obtain rfl:fn=Tryz.f6:=(Option.some.inj (Tryz.func6.symm.trans Gt)).symm
   exact⟨Ci,fun j t ht=>by
    rw[Tryz.params6]at ht
    have hm:t∈[22,23]:=by simpa using Array.mem_of_getElem? ht
    have dh:([22,23].all fun u=> !Tryz.prog.wantsStandIn u)=true:=by kernel_rfl
    exact(show Tryz.prog.wantsStandIn t=false by simpa using List.all_eq_true.1 dh t hm)⟩)
  Cq
end Go.Proofs.YtebobfdheanknaaGreatDoor
