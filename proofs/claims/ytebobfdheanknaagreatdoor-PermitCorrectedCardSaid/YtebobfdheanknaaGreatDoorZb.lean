/- PermitCorrected: a process and a swap of marks that are withdrawn are as if they had never been reported, and a swap that is found out later gives what was done from then on to the other wafer: for every input; the listed package-level variables (tables and errors of the library's) read as the program's text lays them. -/
import Derived.Test.YtebobfdheanknaaGreatDoorYn
import Derived.Test.YtebobfdheanknaaGreatDoorYo
import Derived.Test.YtebobfdheanknaaGreatDoorTie
import Derived.Test.YtebobfdheanknaaGreatDoorCards
import Derived.ProofKit
import Derived.LaidOnce
import Derived.SevenTiedAt
namespace Go.Proofs.YtebobfdheanknaaGreatDoor
open Go Go.K Go.RowKit Go.ChangeShapes Go.WideShapes Go.ChangeAt
set_option maxRecDepth 100000
theorem ln(os:Os)(started:os.Started)(H:Type)(enc:TypeId×Value→H):
  ReturnsInHanded {} Tryz.checked os 8 .any (fun w args=>(Rows.permitCorrectedSpec.pre enc Tryz.prog Tryz.f8 [] false w args∧laidMetH Tryz.prog tI w)∧sizedMet enc Tryz.prog Tryz.f8 (OpenSpec.ofChange Rows.permitCorrectedSpec) false w args)
   (Rows.permitCorrectedSpec.post enc Tryz.prog Tryz.f8 false true false false):=by
 refine oP (C:=Tryz.checked) (X:=fun w _=>laidMetH Tryz.prog tI w) (fun _ _ _ hh h=>h.of_heap hh) wY started (by kernel_rfl) Tryz.func8
  (ChangeSpec.witness_shaped (enc:=enc) (C:=Tryz.checked) (os:=os) (X:=fun w _=>laidMetH Tryz.prog tI w) false (World.laidAll Tryz.prog os tI) #[.slice none 0 0,.slice none 0 0,.slice none 0 0,.int .i64 0,.agg #[.int .i64 0,.int .i64 0,.int .i64 0,.int .i64 0,.int .i64 0,.int .i64 0,.int .i64 0]] 8 (World.laidAll_os _ _ _)
   (World.shaped_of_ZipB (by kernel_rfl) (by kernel_rfl)) (by kernel_rfl) (by kernel_rfl) (by kernel_rfl) (GY os _)) ?_
 intro W args ds gs before OR hW hL mU
 have iG: ∀(j:Nat) t v,Tryz.f8.params[j]? =some t→args[j]? =some v→ ∃base,Value.okWide Tryz.prog W .any base t v:=OR
 have VQ:=hW
 obtain⟨p,q,VR,hV,rfl,Xc,AN⟩:=hW
 have hA:DataW.TrodAll enc Tryz.prog W 0 (fun _=>true) true Tryz.f8.params.toList args.toList ds p:=VR
 rw[Tryz.params8]at hA iG
 obtain⟨v0,v1,v2,v3,v4,d0,d1,d2,d3,d4,p0,p1,p2,p3,p4,rfl,rfl,rfl,h0,h1,h2,h3,h4⟩:=AF hA
 obtain⟨rfl,rfl⟩:=trodVars_none hV
 obtain⟨_,k0⟩:=iG 0 22 v0 rfl rfl
 obtain⟨x0,aH,VS⟩:=EH k0 h0
 obtain⟨_,k1⟩:=iG 1 23 v1 rfl rfl
 obtain⟨x1,aT,aN⟩:=open_ints k1 h1
 obtain⟨_,k2⟩:=iG 2 23 v2 rfl rfl
 obtain⟨x2,bT,wF⟩:=open_ints k2 h2
 obtain⟨_,k3⟩:=iG 3 3 v3 rfl rfl
 obtain⟨a3,rfl,VT⟩:=Cd k3 h3
 obtain⟨_,k4⟩:=iG 4 43 v4 rfl rfl
 obtain⟨y4,rfl,Xp⟩:=GX k4 h4
 rw[MakeChecks.laidMetH_plain _ _ _ (by kernel_rfl)]at hL
 exact Ad (by kernel_rfl) rfl rfl (by kernel_rfl) VQ (He v0 x0 v1 x1 v2 x2 a3 y4 (r_ W) (N2 hL mU) aH VS aT aN bT wF VT Xp)
theorem Cc:(Rows.permitCorrectedRow.inPlace==Tryz.prog.inPlace 8)=true:=by kernel_rfl
theorem Cm:(Rows.permitCorrectedRow.unfollowed==Tryz.prog.unfollowed 8)=true:=by kernel_rfl
theorem Cp:(Rows.permitCorrectedRow.recurses==Tryz.prog.recurses 8)=true:=by kernel_rfl
theorem Cq:(Rows.permitCorrectedRow.named==Tryz.prog.varsNamed 8)=true:=by kernel_rfl
theorem Ek:(Rows.permitCorrectedRow.wf (OpenSpec.ofChange Rows.permitCorrectedSpec)&&Tryz.f8.params.all (Tryz.prog.readableRec ·)&&namedTie Tryz.prog Rows.permitCorrectedRow.named Rows.permitCorrectedSpec.vars)=true:=by kernel_rfl
theorem uG:mapsRowed Tryz.prog=true:=by kernel_rfl
theorem Er:(Tryz.prog.mayEnter&&(Rows.permitCorrectedRow.lifted==Tryz.prog.liftsFinal)&&(Tryz.prog.make==some Rows.permitCorrectedRow.make))=true:=by kernel_rfl
theorem Ex:((Rows.permitCorrectedRow.plainKeys==Tryz.prog.plainKeys)&&Tryz.prog.stopsHeard&&(Tryz.prog.stops==[])&&(Tryz.prog.stopKnobs==[]))=true:=by kernel_rfl
theorem kB:Tryz.prog.funcNamed Rows.permitCorrectedRow.func=some 8:=by kernel_rfl
theorem Ey:Tryz.prog.mainIs=some (true, "7883561ccd6e3ec7de47bbbc0187876f0e578c371406eba4874d10aebb56aee2".toList):=by kernel_rfl
theorem u6:true=Tryz.prog.looks []:=by kernel_rfl
theorem yl:false=Rows.permitCorrectedRow.goesBy Tryz.prog:=by kernel_rfl
theorem ym:Rows.PermitCorrectedSaid:=
 OpenClaim.holds_of_wide 8 Tryz.f8 rfl rfl rfl rfl rfl rfl rfl ⟨rfl,rfl,rfl,rfl,rfl⟩ rfl rfl rfl rfl rfl kB Tryz.func8 (CE Cc Cm Cp Cq Ek laidOut uG Er Ex (by kernel_rfl))
  (of_decide_eq_true (by kernel_rfl)) (by unfold Func.isWrapper;first|(rw[if_pos (by decide+kernel)];kernel_rfl)|(rw[if_neg (by decide+kernel)];exact⟨rfl,rfl⟩))
  (fun os started H enc _=>ln os started H enc)
theorem corrected_holds:Rows.PermitCorrectedCardSaid:=
 Claim7.holds_tied_plain_at .later [] [.data,.data,.data,.data,.sentinel,.sentinel,.pinned] true (true, "7883561ccd6e3ec7de47bbbc0187876f0e578c371406eba4874d10aebb56aee2") true
  ym (fun _ h=>by cases h) (by kernel_rfl) (fun _ h=>by cases h) permitCorrected_row_tie rfl ⟨rfl,rfl⟩ Ey rfl
  (fun f fn hf Gt=>by
   obtain rfl:f=8:=Option.some.inj ((show Tryz.prog.funcNamed "cleanroom/cleanroomlaw19.PermitCorrected" =some 8 from kB).symm.trans hf)|>.symm
   obtain rfl:fn=Tryz.f8:=(Option.some.inj (Tryz.func8.symm.trans Gt)).symm
   exact⟨u6,fun j t ht=>by
    rw[Tryz.params8]at ht
    have hm:t∈[22,23,23,3,43]:=by simpa using Array.mem_of_getElem? ht
    have dh:([22,23,23,3,43].all fun u=> !Tryz.prog.wantsStandIn u)=true:=by kernel_rfl
    exact(show Tryz.prog.wantsStandIn t=false by simpa using List.all_eq_true.1 dh t hm)⟩)
  yl
end Go.Proofs.YtebobfdheanknaaGreatDoor
