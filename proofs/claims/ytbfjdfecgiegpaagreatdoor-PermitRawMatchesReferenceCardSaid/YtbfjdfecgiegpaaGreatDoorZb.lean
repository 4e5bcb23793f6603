/- PermitRawMatchesReference: all functions agree with the reference implementation, for arbitrary bases and acts: for every input; the listed package-level variables (tables and errors of the library's) read as the program's text lays them. -/
import Derived.Test.YtbfjdfecgiegpaaGreatDoorYp
import Derived.Test.YtbfjdfecgiegpaaGreatDoorTie
import Derived.Test.YtbfjdfecgiegpaaGreatDoorCards
import Derived.ProofKit
import Derived.LaidOnce
import Derived.SevenTiedAt
namespace Go.Proofs.YtbfjdfecgiegpaaGreatDoor
open Go Go.K Go.RowKit Go.ChangeShapes Go.WideShapes Go.ChangeAt
set_option maxRecDepth 100000
theorem l9(os:Os)(started:os.Started)(H:Type)(enc:TypeId×Value→H):
  ReturnsInHanded {} Tryz.checked os 3 .any (fun w args=>(Rows.permitRawMatchesReferenceSpec.pre enc Tryz.prog Tryz.f3 [] false w args∧laidMetH Tryz.prog xw w)∧sizedMet enc Tryz.prog Tryz.f3 (OpenSpec.ofChange Rows.permitRawMatchesReferenceSpec) false w args)
   (Rows.permitRawMatchesReferenceSpec.post enc Tryz.prog Tryz.f3 false true false false):=by
 refine rW (C:=Tryz.checked) (X:=fun w _=>laidMetH Tryz.prog xw w) (fun _ _ _ hh h=>h.of_heap hh) AL started (by kernel_rfl) Tryz.func3
  (ChangeSpec.witness_shaped (enc:=enc) (C:=Tryz.checked) (os:=os) (X:=fun w _=>laidMetH Tryz.prog xw w) false (World.laidAll Tryz.prog os xw) #[.slice none 0 0,.agg #[.int .i64 0,.int .i64 0,.int .i64 0,.int .i64 0,.int .i64 0,.int .i64 0,.int .i64 0]] 8 (World.laidAll_os _ _ _)
   (World.shaped_of_ZipB (by kernel_rfl) (by kernel_rfl)) (by kernel_rfl) (by kernel_rfl) (by kernel_rfl) (LO os _)) ?_
 intro W args ds gs before UP hW hL pQ;have cF: ∀(j:Nat) t v,Tryz.f3.params[j]? =some t→args[j]? =some v→ ∃base,Value.okWide Tryz.prog W .any base t v:=UP;have Sp:=hW;obtain⟨p,q,Sq,hV,rfl,Wb,yq⟩:=hW;have hA:DataW.TrodAll enc Tryz.prog W 0 (fun _=>true) true Tryz.f3.params.toList args.toList ds p:=Sq;rw[Tryz.params3]at hA cF;obtain⟨v0,v1,d0,d1,p0,p1,rfl,rfl,rfl,h0,h1⟩:=trodAll_two hA;obtain⟨rfl,rfl⟩:=trodVars_none hV;obtain⟨_,k0⟩:=cF 0 22 v0 rfl rfl;obtain⟨x0,aH,MF⟩:=Gl k0 h0;obtain⟨_,k1⟩:=cF 1 24 v1 rfl rfl;obtain⟨y1,rfl⟩:=I2 k1 h1;rw[MakeChecks.laidMetH_plain _ _ _ (by kernel_rfl)]at hL;exact DQ (by kernel_rfl) rfl rfl (by kernel_rfl) Sp (Q7 v0 x0 y1 (yK W) (TJ hL pQ) aH MF)
theorem oK:(Rows.permitRawMatchesReferenceRow.inPlace==Tryz.prog.inPlace 3)=true:=by kernel_rfl
theorem oL:(Rows.permitRawMatchesReferenceRow.unfollowed==Tryz.prog.unfollowed 3)=true:=by kernel_rfl
theorem oM:(Rows.permitRawMatchesReferenceRow.recurses==Tryz.prog.recurses 3)=true:=by kernel_rfl
theorem oN:(Rows.permitRawMatchesReferenceRow.named==Tryz.prog.varsNamed 3)=true:=by kernel_rfl
theorem oO:(Rows.permitRawMatchesReferenceRow.wf (OpenSpec.ofChange Rows.permitRawMatchesReferenceSpec)&&Tryz.f3.params.all (Tryz.prog.readableRec ·)&&namedTie Tryz.prog Rows.permitRawMatchesReferenceRow.named Rows.permitRawMatchesReferenceSpec.vars)=true:=by kernel_rfl
theorem nN:mapsRowed Tryz.prog=true:=by kernel_rfl
theorem oP:(Tryz.prog.mayEnter&&(Rows.permitRawMatchesReferenceRow.lifted==Tryz.prog.liftsFinal)&&(Tryz.prog.make==some Rows.permitRawMatchesReferenceRow.make))=true:=by kernel_rfl
theorem oQ:((Rows.permitRawMatchesReferenceRow.plainKeys==Tryz.prog.plainKeys)&&Tryz.prog.stopsHeard&&(Tryz.prog.stops==[])&&(Tryz.prog.stopKnobs==[]))=true:=by kernel_rfl
theorem j7:Tryz.prog.funcNamed Rows.permitRawMatchesReferenceRow.func=some 3:=by kernel_rfl
theorem oR:Tryz.prog.mainIs=some (true, "702c4cbde0f8d1165b327421d27c665877a9e46e19a8f214a3ad2e11950c63c3".toList):=by kernel_rfl
theorem nO:true=Tryz.prog.looks []:=by kernel_rfl
theorem nP:false=Rows.permitRawMatchesReferenceRow.goesBy Tryz.prog:=by kernel_rfl
theorem nQ:Rows.PermitRawMatchesReferenceSaid:=
 OpenClaim.holds_of_wide 3 Tryz.f3 rfl rfl rfl rfl rfl rfl rfl ⟨rfl,rfl,rfl,rfl,rfl⟩ rfl rfl rfl rfl rfl j7 Tryz.func3 (Gy oK oL oM oN oO laidOut nN oP oQ (by kernel_rfl))
  (of_decide_eq_true (by kernel_rfl)) (by unfold Func.isWrapper;first|(rw[if_pos (by decide+kernel)];kernel_rfl)|(rw[if_neg (by decide+kernel)];exact⟨rfl,rfl⟩))
  (fun os started H enc _=>l9 os started H enc)
theorem rawMatchesReference_holds:Rows.PermitRawMatchesReferenceCardSaid:=
 Claim7.holds_tied_plain_at .later [] [.data,.data,.data,.data,.sentinel,.sentinel,.pinned] true (true, "702c4cbde0f8d1165b327421d27c665877a9e46e19a8f214a3ad2e11950c63c3") true
  nQ (fun _ h=>by cases h) (by kernel_rfl) (fun _ h=>by cases h) permitRawMatchesReference_row_tie rfl ⟨rfl,rfl⟩ oR rfl
  (fun f fn hf Ga=>by
   obtain rfl:f=3:=Option.some.inj ((show Tryz.prog.funcNamed "cleanroom/cleanroomlaw19.PermitRawMatchesReference" =some 3 from j7).symm.trans hf)|>.symm;obtain rfl:fn=Tryz.f3:=(Option.some.inj (Tryz.func3.symm.trans Ga)).symm;exact⟨nO,fun j t ht=>by
    rw[Tryz.params3]at ht;have hm:t∈[22,24]:=by simpa using Array.mem_of_getElem? ht
    have dj:([22,24].all fun u=> !Tryz.prog.wantsStandIn u)=true:=by kernel_rfl
    exact(show Tryz.prog.wantsStandIn t=false by simpa using List.all_eq_true.1 dj t hm)⟩)
  nP
end Go.Proofs.YtbfjdfecgiegpaaGreatDoor
