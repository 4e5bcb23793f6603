/- PermitTwice: a step that was done is not permitted again, unless it leads back to itself by rework; a process of the same step directly behind it is found by Audit: for every input; the listed package-level variables (tables and errors of the library's) read as the program's text lays them. -/
import Derived.Test.YtebobfdheanknaaGreatDoorYo
import Derived.Test.YtebobfdheanknaaGreatDoorYp
import Derived.Test.YtebobfdheanknaaGreatDoorTie
import Derived.Test.YtebobfdheanknaaGreatDoorCards
import Derived.ProofKit
import Derived.LaidOnce
import Derived.SevenTiedAt
namespace Go.Proofs.YtebobfdheanknaaGreatDoor
open Go Go.K Go.RowKit Go.ChangeShapes Go.WideShapes Go.ChangeAt
set_option maxRecDepth 100000
theorem US(os:Os)(started:os.Started)(H:Type)(enc:TypeId×Value→H):
  ReturnsInHanded {} Tryz.checked os 7 .any (fun w args=>(Rows.permitTwiceSpec.pre enc Tryz.prog Tryz.f7 [] false w args∧laidMetH Tryz.prog tI w)∧sizedMet enc Tryz.prog Tryz.f7 (OpenSpec.ofChange Rows.permitTwiceSpec) false w args)
   (Rows.permitTwiceSpec.post enc Tryz.prog Tryz.f7 false true false false):=by
 refine oP (C:=Tryz.checked) (X:=fun w _=>laidMetH Tryz.prog tI w) (fun _ _ _ hh h=>h.of_heap hh) wY started (by kernel_rfl) Tryz.func7
  (ChangeSpec.witness_shaped (enc:=enc) (C:=Tryz.checked) (os:=os) (X:=fun w _=>laidMetH Tryz.prog tI w) false (World.laidAll Tryz.prog os tI) #[.slice none 0 0,.slice none 0 0] 8 (World.laidAll_os _ _ _)
   (World.shaped_of_ZipB (by kernel_rfl) (by kernel_rfl)) (by kernel_rfl) (by kernel_rfl) (by kernel_rfl) (GY os _)) ?_
 intro W args ds gs before OR hW hL mU
 have iG: ∀(j:Nat) t v,Tryz.f7.params[j]? =some t→args[j]? =some v→ ∃base,Value.okWide Tryz.prog W .any base t v:=OR
 have VQ:=hW
 obtain⟨p,q,VR,hV,rfl,Xc,AN⟩:=hW
 have hA:DataW.TrodAll enc Tryz.prog W 0 (fun _=>true) true Tryz.f7.params.toList args.toList ds p:=VR
 rw[Tryz.params7]at hA iG
 obtain⟨v0,v1,d0,d1,p0,p1,rfl,rfl,rfl,h0,h1⟩:=trodAll_two hA
 obtain⟨rfl,rfl⟩:=trodVars_none hV
 obtain⟨_,k0⟩:=iG 0 22 v0 rfl rfl
 obtain⟨x0,aH,VS⟩:=EH k0 h0
 obtain⟨_,k1⟩:=iG 1 23 v1 rfl rfl
 obtain⟨x1,aT,aN⟩:=open_ints k1 h1
 rw[MakeChecks.laidMetH_plain _ _ _ (by kernel_rfl)]at hL
 exact Ad (by kernel_rfl) rfl rfl (by kernel_rfl) VQ (Ye v0 x0 v1 x1 (r_ W) (N2 hL mU) aH VS aT aN)
theorem XY:(Rows.permitTwiceRow.inPlace==Tryz.prog.inPlace 7)=true:=by kernel_rfl
theorem XZ:(Rows.permitTwiceRow.unfollowed==Tryz.prog.unfollowed 7)=true:=by kernel_rfl
theorem X0:(Rows.permitTwiceRow.recurses==Tryz.prog.recurses 7)=true:=by kernel_rfl
theorem X3:(Rows.permitTwiceRow.named==Tryz.prog.varsNamed 7)=true:=by kernel_rfl
theorem X4:(Rows.permitTwiceRow.wf (OpenSpec.ofChange Rows.permitTwiceSpec)&&Tryz.f7.params.all (Tryz.prog.readableRec ·)&&namedTie Tryz.prog Rows.permitTwiceRow.named Rows.permitTwiceSpec.vars)=true:=by kernel_rfl
theorem XG:mapsRowed Tryz.prog=true:=by kernel_rfl
theorem X5:(Tryz.prog.mayEnter&&(Rows.permitTwiceRow.lifted==Tryz.prog.liftsFinal)&&(Tryz.prog.make==some Rows.permitTwiceRow.make))=true:=by kernel_rfl
theorem X6:((Rows.permitTwiceRow.plainKeys==Tryz.prog.plainKeys)&&Tryz.prog.stopsHeard&&(Tryz.prog.stops==[])&&(Tryz.prog.stopKnobs==[]))=true:=by kernel_rfl
theorem Xf:Tryz.prog.funcNamed Rows.permitTwiceRow.func=some 7:=by kernel_rfl
theorem X7:Tryz.prog.mainIs=some (true, "7883561ccd6e3ec7de47bbbc0187876f0e578c371406eba4874d10aebb56aee2".toList):=by kernel_rfl
theorem XH:true=Tryz.prog.looks []:=by kernel_rfl
theorem XJ:false=Rows.permitTwiceRow.goesBy Tryz.prog:=by kernel_rfl
theorem XK:Rows.PermitTwiceSaid:=
 OpenClaim.holds_of_wide 7 Tryz.f7 rfl rfl rfl rfl rfl rfl rfl ⟨rfl,rfl,rfl,rfl,rfl⟩ rfl rfl rfl rfl rfl Xf Tryz.func7 (CE XY XZ X0 X3 X4 laidOut XG X5 X6 (by kernel_rfl))
  (of_decide_eq_true (by kernel_rfl)) (by unfold Func.isWrapper;first|(rw[if_pos (by decide+kernel)];kernel_rfl)|(rw[if_neg (by decide+kernel)];exact⟨rfl,rfl⟩))
  (fun os started H enc _=>US os started H enc)
theorem twice_holds:Rows.PermitTwiceCardSaid:=
 Claim7.holds_tied_plain_at .later [] [.data,.data,.data,.data,.sentinel,.sentinel,.pinned] true (true, "7883561ccd6e3ec7de47bbbc0187876f0e578c371406eba4874d10aebb56aee2") true
  XK (fun _ h=>by cases h) (by kernel_rfl) (fun _ h=>by cases h) permitTwice_row_tie rfl ⟨rfl,rfl⟩ X7 rfl
  (fun f fn hf Gt=>by
   obtain rfl:f=7:=Option.some.inj ((show Tryz.prog.funcNamed "cleanroom/cleanroomlaw19.PermitTwice" =some 7 from Xf).symm.trans hf)|>.symm
   obtain rfl:fn=Tryz.f7:=(Option.some.inj (Tryz.func7.symm.trans Gt)).symm
   exact⟨XH,fun j t ht=>by
    rw[Tryz.params7]at ht
    have hm:t∈[22,23]:=by simpa using Array.mem_of_getElem? ht
    have dh:([22,23].all fun u=> !Tryz.prog.wantsStandIn u)=true:=by kernel_rfl
    exact(show Tryz.prog.wantsStandIn t=false by simpa using List.all_eq_true.1 dh t hm)⟩)
  XJ
end Go.Proofs.YtebobfdheanknaaGreatDoor
