/- PermitMatchesReference: Done, Next, May and Audit agree with the reference implementation: for every input; the listed package-level variables (tables and errors of the library's) read as the program's text lays them. -/
import Derived.Test.YtkpojaffabjibaaGreatDoorYp
import Derived.Test.YtkpojaffabjibaaGreatDoorTie
import Derived.Test.YtkpojaffabjibaaGreatDoorCards
import Derived.LaidOnce
import Derived.SevenTiedAt
namespace Go.Proofs.YtkpojaffabjibaaGreatDoor
open Go Go.K Go.RowKit Go.ChangeShapes Go.WideShapes Go.ChangeAt
set_option maxRecDepth 100000
theorem pd(os:Os)(started:os.Started)(H:Type)(enc:TypeId×Value→H):
  ReturnsInHanded {} Tryz.checked os 3 .any (fun w args=>(Rows.permitMatchesReferenceSpec.pre enc Tryz.prog Tryz.f3 [] false w args∧laidMetH Tryz.prog y7 w)∧sizedMet enc Tryz.prog Tryz.f3 (OpenSpec.ofChange Rows.permitMatchesReferenceSpec) false w args)
   (Rows.permitMatchesReferenceSpec.post enc Tryz.prog Tryz.f3 false true false false):=by
 refine tJ (C:=Tryz.checked) (X:=fun w _=>laidMetH Tryz.prog y7 w) (fun _ _ _ hh h=>h.of_heap hh) Cm started (by kernel_rfl) Tryz.func3
  (ChangeSpec.witness_shaped (enc:=enc) (C:=Tryz.checked) (os:=os) (X:=fun w _=>laidMetH Tryz.prog y7 w) false (World.laidAll Tryz.prog os y7) #[.slice none 0 0,.slice none 0 0,.slice none 0 0,.slice none 0 0] 8 (World.laidAll_os _ _ _)
   (World.shaped_of_ZipB (by kernel_rfl) (by kernel_rfl)) (by kernel_rfl) (by kernel_rfl) (by kernel_rfl) (N2 os _)) ?_
 intro W args ds gs before Uu hW hL qL;have cE: ∀(j:Nat) t v,Tryz.f3.params[j]? =some t→args[j]? =some v→ ∃base,Value.okWide Tryz.prog W .any base t v:=Uu;have hW':=hW;obtain⟨p,q,hA0,hV,rfl,hfz,z8⟩:=hW;have hA:DataW.TrodAll enc Tryz.prog W 0 (fun _=>true) true Tryz.f3.params.toList args.toList ds p:=hA0;rw[Tryz.params3]at hA cE;obtain⟨v0,v1,v2,v3,d0,d1,d2,d3,p0,p1,p2,p3,rfl,rfl,rfl,h0,h1,h2,h3⟩:=trodAll_four hA;obtain⟨rfl,rfl⟩:=trodVars_none hV;obtain⟨_,k0⟩:=cE 0 22 v0 rfl rfl;obtain⟨x0,aA,OR⟩:=K6 k0 h0;obtain⟨_,k1⟩:=cE 1 23 v1 rfl rfl;obtain⟨x1,aE,aH⟩:=open_ints k1 h1;obtain⟨_,k2⟩:=cE 2 24 v2 rfl rfl;obtain⟨x2,bB,FE⟩:=Io k2 h2;obtain⟨_,k3⟩:=cE 3 25 v3 rfl rfl;obtain⟨x3,aT,fT⟩:=K8 k3 h3;rw[MakeChecks.laidMetH_plain _ _ _ (by kernel_rfl)]at hL;exact FQ (by kernel_rfl) rfl rfl (by kernel_rfl) hW' (HV v0 x0 v1 x1 v2 x2 v3 x3 (vV W) (Tc hL qL) aA OR aE aH bB FE aT fT)
theorem sD:(Rows.permitMatchesReferenceRow.inPlace==Tryz.prog.inPlace 3)=true:=by kernel_rfl
theorem sE:(Rows.permitMatchesReferenceRow.unfollowed==Tryz.prog.unfollowed 3)=true:=by kernel_rfl
theorem sF:(Rows.permitMatchesReferenceRow.recurses==Tryz.prog.recurses 3)=true:=by kernel_rfl
theorem sG:(Rows.permitMatchesReferenceRow.named==Tryz.prog.varsNamed 3)=true:=by kernel_rfl
theorem sH:(Rows.permitMatchesReferenceRow.wf (OpenSpec.ofChange Rows.permitMatchesReferenceSpec)&&Tryz.f3.params.all (Tryz.prog.readableRec ·)&&namedTie Tryz.prog Rows.permitMatchesReferenceRow.named Rows.permitMatchesReferenceSpec.vars)=true:=by kernel_rfl
theorem ry:mapsRowed Tryz.prog=true:=by kernel_rfl
theorem sI:(Tryz.prog.mayEnter&&(Rows.permitMatchesReferenceRow.lifted==Tryz.prog.liftsFinal)&&(Tryz.prog.make==some Rows.permitMatchesReferenceRow.make))=true:=by kernel_rfl
theorem sJ:((Rows.permitMatchesReferenceRow.plainKeys==Tryz.prog.plainKeys)&&Tryz.prog.stopsHeard&&(Tryz.prog.stops==[])&&(Tryz.prog.stopKnobs==[]))=true:=by kernel_rfl
theorem mW:Tryz.prog.funcNamed Rows.permitMatchesReferenceRow.func=some 3:=by kernel_rfl
theorem sK:Tryz.prog.mainIs=some (true, "a29ed9f1f6773c9f289ff323cb1d90425ae21a14d8b36a396fd1210dabaf47fe".toList):=by kernel_rfl
theorem rz:true=Tryz.prog.looks []:=by kernel_rfl
theorem rA:false=Rows.permitMatchesReferenceRow.goesBy Tryz.prog:=by kernel_rfl
theorem rB:Rows.PermitMatchesReferenceSaid:=
 OpenClaim.holds_of_wide 3 Tryz.f3 rfl rfl rfl rfl rfl rfl rfl ⟨rfl,rfl,rfl,rfl,rfl⟩ rfl rfl rfl rfl rfl mW Tryz.func3 (Iz sD sE sF sG sH laidOut ry sI sJ (by kernel_rfl))
  (of_decide_eq_true (by kernel_rfl)) (by unfold Func.isWrapper;first|(rw[if_pos (by decide+kernel)];kernel_rfl)|(rw[if_neg (by decide+kernel)];exact⟨rfl,rfl⟩))
  (fun os started H enc _=>pd os started H enc)
theorem matchesReference_holds:Rows.PermitMatchesReferenceCardSaid:=
 Claim7.holds_tied_plain_at .later [] [.data,.data,.data,.data,.sentinel,.sentinel,.pinned] true (true, "a29ed9f1f6773c9f289ff323cb1d90425ae21a14d8b36a396fd1210dabaf47fe") true
  rB (fun _ h=>by cases h) (by kernel_rfl) (fun _ h=>by cases h) permitMatchesReference_row_tie rfl ⟨rfl,rfl⟩ sK rfl
  (fun f fn hf H7=>by
   obtain rfl:f=3:=Option.some.inj ((show Tryz.prog.funcNamed "cleanroom/cleanroomlaw19.PermitMatchesReference" =some 3 from mW).symm.trans hf)|>.symm;obtain rfl:fn=Tryz.f3:=(Option.some.inj (Tryz.func3.symm.trans H7)).symm;exact⟨rz,fun j t ht=>by
    rw[Tryz.params3]at ht;have hm:t∈[22,23,24,25]:=by simpa using Array.mem_of_getElem? ht
    have dW:([22,23,24,25].all fun u=> !Tryz.prog.wantsStandIn u)=true:=by kernel_rfl
    exact(show Tryz.prog.wantsStandIn t=false by simpa using List.all_eq_true.1 dW t hm)⟩)
  rA
end Go.Proofs.YtkpojaffabjibaaGreatDoor
