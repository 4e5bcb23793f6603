/- PermitStopped: a hold without conditions stops every act of its time span, withdrawing the qualifications stops acts, and facts about other wafers and products make no difference: for every input; the listed package-level variables (tables and errors of the library's) read as the program's text lays them. -/
import Derived.Test.YtebobfdheanknaaGreatDoorYo
import Derived.Test.YtebobfdheanknaaGreatDoorTie
import Derived.Test.YtebobfdheanknaaGreatDoorCards
import Derived.ProofKit
import Derived.LaidOnce
import Derived.SevenTiedAt
namespace Go.Proofs.YtebobfdheanknaaGreatDoor
open Go Go.K Go.RowKit Go.ChangeShapes Go.WideShapes Go.ChangeAt
set_option maxRecDepth 100000
theorem zg(os:Os)(started:os.Started)(H:Type)(enc:TypeId×Value→H):
  ReturnsInHanded {} Tryz.checked os 9 .any (fun w args=>(Rows.permitStoppedSpec.pre enc Tryz.prog Tryz.f9 [] false w args∧laidMetH Tryz.prog tI w)∧sizedMet enc Tryz.prog Tryz.f9 (OpenSpec.ofChange Rows.permitStoppedSpec) false w args)
   (Rows.permitStoppedSpec.post enc Tryz.prog Tryz.f9 false true false false):=by
 refine oP (C:=Tryz.checked) (X:=fun w _=>laidMetH Tryz.prog tI w) (fun _ _ _ hh h=>h.of_heap hh) wY started (by kernel_rfl) Tryz.func9
  (ChangeSpec.witness_shaped (enc:=enc) (C:=Tryz.checked) (os:=os) (X:=fun w _=>laidMetH Tryz.prog tI w) false (World.laidAll Tryz.prog os tI) #[.slice none 0 0,.slice none 0 0,.agg #[.int .i64 0,.int .i64 0,.int .i64 0,.int .i64 0,.int .i64 0,.int .i64 0,.int .i64 0],.int .i64 0,.int .i64 0] 8 (World.laidAll_os _ _ _)
   (World.shaped_of_ZipB (by kernel_rfl) (by kernel_rfl)) (by kernel_rfl) (by kernel_rfl) (by kernel_rfl) (GY os _)) ?_
 intro W args ds gs before OR hW hL mU
 have iG: ∀(j:Nat) t v,Tryz.f9.params[j]? =some t→args[j]? =some v→ ∃base,Value.okWide Tryz.prog W .any base t v:=OR
 have VQ:=hW
 obtain⟨p,q,VR,hV,rfl,Xc,AN⟩:=hW
 have hA:DataW.TrodAll enc Tryz.prog W 0 (fun _=>true) true Tryz.f9.params.toList args.toList ds p:=VR
 rw[Tryz.params9]at hA iG
 obtain⟨v0,v1,v2,v3,v4,d0,d1,d2,d3,d4,p0,p1,p2,p3,p4,rfl,rfl,rfl,h0,h1,h2,h3,h4⟩:=AF hA
 obtain⟨rfl,rfl⟩:=trodVars_none hV
 obtain⟨_,k0⟩:=iG 0 22 v0 rfl rfl
 obtain⟨x0,aH,VS⟩:=EH k0 h0
 obtain⟨_,k1⟩:=iG 1 23 v1 rfl rfl
 obtain⟨x1,aT,aN⟩:=open_ints k1 h1
 obtain⟨_,k2⟩:=iG 2 43 v2 rfl rfl
 obtain⟨y2,rfl,Oy⟩:=GX k2 h2
 obtain⟨_,k3⟩:=iG 3 3 v3 rfl rfl
 obtain⟨a3,rfl,VT⟩:=Cd k3 h3
 obtain⟨_,k4⟩:=iG 4 3 v4 rfl rfl
 obtain⟨a4,rfl,Xp⟩:=Cd k4 h4
 rw[MakeChecks.laidMetH_plain _ _ _ (by kernel_rfl)]at hL
 exact Ad (by kernel_rfl) rfl rfl (by kernel_rfl) VQ (SJ v0 x0 v1 x1 y2 a3 a4 (r_ W) (N2 hL mU) aH VS aT aN Oy VT Xp)
theorem E7:(Rows.permitStoppedRow.inPlace==Tryz.prog.inPlace 9)=true:=by kernel_rfl
theorem FQ:(Rows.permitStoppedRow.unfollowed==Tryz.prog.unfollowed 9)=true:=by kernel_rfl
theorem GD:(Rows.permitStoppedRow.recurses==Tryz.prog.recurses 9)=true:=by kernel_rfl
theorem GI:(Rows.permitStoppedRow.named==Tryz.prog.varsNamed 9)=true:=by kernel_rfl
theorem GJ:(Rows.permitStoppedRow.wf (OpenSpec.ofChange Rows.permitStoppedSpec)&&Tryz.f9.params.all (Tryz.prog.readableRec ·)&&namedTie Tryz.prog Rows.permitStoppedRow.named Rows.permitStoppedSpec.vars)=true:=by kernel_rfl
theorem Cm:mapsRowed Tryz.prog=true:=by kernel_rfl
theorem GK:(Tryz.prog.mayEnter&&(Rows.permitStoppedRow.lifted==Tryz.prog.liftsFinal)&&(Tryz.prog.make==some Rows.permitStoppedRow.make))=true:=by kernel_rfl
theorem GL:((Rows.permitStoppedRow.plainKeys==Tryz.prog.plainKeys)&&Tryz.prog.stopsHeard&&(Tryz.prog.stops==[])&&(Tryz.prog.stopKnobs==[]))=true:=by kernel_rfl
theorem zh:Tryz.prog.funcNamed Rows.permitStoppedRow.func=some 9:=by kernel_rfl
theorem He:Tryz.prog.mainIs=some (true, "7883561ccd6e3ec7de47bbbc0187876f0e578c371406eba4874d10aebb56aee2".toList):=by kernel_rfl
theorem Cp:true=Tryz.prog.looks []:=by kernel_rfl
theorem Cq:false=Rows.permitStoppedRow.goesBy Tryz.prog:=by kernel_rfl
theorem Ek:Rows.PermitStoppedSaid:=
 OpenClaim.holds_of_wide 9 Tryz.f9 rfl rfl rfl rfl rfl rfl rfl ⟨rfl,rfl,rfl,rfl,rfl⟩ rfl rfl rfl rfl rfl zh Tryz.func9 (CE E7 FQ GD GI GJ laidOut Cm GK GL (by kernel_rfl))
  (of_decide_eq_true (by kernel_rfl)) (by unfold Func.isWrapper;first|(rw[if_pos (by decide+kernel)];kernel_rfl)|(rw[if_neg (by decide+kernel)];exact⟨rfl,rfl⟩))
  (fun os started H enc _=>zg os started H enc)
theorem stopped_holds:Rows.PermitStoppedCardSaid:=
 Claim7.holds_tied_plain_at .later [] [.data,.data,.data,.data,.sentinel,.sentinel,.pinned] true (true, "7883561ccd6e3ec7de47bbbc0187876f0e578c371406eba4874d10aebb56aee2") true
  Ek (fun _ h=>by cases h) (by kernel_rfl) (fun _ h=>by cases h) permitStopped_row_tie rfl ⟨rfl,rfl⟩ He rfl
  (fun f fn hf Gt=>by
   obtain rfl:f=9:=Option.some.inj ((show Tryz.prog.funcNamed "cleanroom/cleanroomlaw19.PermitStopped" =some 9 from zh).symm.trans hf)|>.symm
   obtain rfl:fn=Tryz.f9:=(Option.some.inj (Tryz.func9.symm.trans Gt)).symm
   exact⟨Cp,fun j t ht=>by
    rw[Tryz.params9]at ht
    have hm:t∈[22,23,43,3,3]:=by simpa using Array.mem_of_getElem? ht
    have dh:([22,23,43,3,3].all fun u=> !Tryz.prog.wantsStandIn u)=true:=by kernel_rfl
    exact(show Tryz.prog.wantsStandIn t=false by simpa using List.all_eq_true.1 dh t hm)⟩)
  Cq
end Go.Proofs.YtebobfdheanknaaGreatDoor
