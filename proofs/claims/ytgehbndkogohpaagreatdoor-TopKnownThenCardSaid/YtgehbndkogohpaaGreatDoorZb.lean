/- TopKnownThen: what was known on a day can be computed again on any later day: facts that become known later make no difference: for every input; the listed package-level variables (tables and errors of the library's) read as the program's text lays them. -/
import Derived.Test.YtgehbndkogohpaaGreatDoorYn
import Derived.Test.YtgehbndkogohpaaGreatDoorYp
import Derived.Test.YtgehbndkogohpaaGreatDoorTie
import Derived.Test.YtgehbndkogohpaaGreatDoorCards
import Derived.ProofKit
import Derived.LaidOnce
import Derived.SevenTiedAt
namespace Go.Proofs.YtgehbndkogohpaaGreatDoor
open Go Go.K Go.RowKit Go.ChangeShapes Go.WideShapes Go.ChangeAt
set_option maxRecDepth 100000
theorem so(os:Os)(started:os.Started)(H:Type)(enc:TypeId×Value→H):
  ReturnsInHanded {} Tryz.checked os 3 .any (fun w args=>(Rows.topKnownThenSpec.pre enc Tryz.prog Tryz.f3 [] false w args∧laidMetH Tryz.prog uH w)∧sizedMet enc Tryz.prog Tryz.f3 (OpenSpec.ofChange Rows.topKnownThenSpec) false w args)
   (Rows.topKnownThenSpec.post enc Tryz.prog Tryz.f3 false true false false):=by
 refine pU (C:=Tryz.checked) (X:=fun w _=>laidMetH Tryz.prog uH w) (fun _ _ _ hh h=>h.of_heap hh) x9 started (by kernel_rfl) Tryz.func3
  (ChangeSpec.witness_shaped (enc:=enc) (C:=Tryz.checked) (os:=os) (X:=fun w _=>laidMetH Tryz.prog uH w) false (World.laidAll Tryz.prog os uH) #[.slice none 0 0,.slice none 0 0,.slice none 0 0,.int .i64 0,.int .i64 0,.int .i64 0,.int .i64 0] 8 (World.laidAll_os _ _ _)
   (World.shaped_of_ZipB (by kernel_rfl) (by kernel_rfl)) (by kernel_rfl) (by kernel_rfl) (by kernel_rfl) (Is os _)) ?_
 intro W args ds gs before QR hW hL nN;have fu: ∀(j:Nat) t v,Tryz.f3.params[j]? =some t→args[j]? =some v→ ∃base,Value.okWide Tryz.prog W .any base t v:=QR;have Yj:=hW;obtain⟨p,q,Yk,hV,rfl,ZH,za⟩:=hW;have hA:DataW.TrodAll enc Tryz.prog W 0 (fun _=>true) true Tryz.f3.params.toList args.toList ds p:=Yk;rw[Tryz.params3]at hA fu;obtain⟨v0,v1,v2,v3,v4,v5,v6,d0,d1,d2,d3,d4,d5,d6,p0,p1,p2,p3,p4,p5,p6,rfl,rfl,rfl,h0,h1,h2,h3,h4,h5,h6⟩:=vI hA;obtain⟨rfl,rfl⟩:=trodVars_none hV;obtain⟨_,k0⟩:=fu 0 22 v0 rfl rfl;obtain⟨x0,aH,Yl⟩:=uI k0 h0;obtain⟨_,k1⟩:=fu 1 22 v1 rfl rfl;obtain⟨x1,aU,aP⟩:=uI k1 h1;obtain⟨_,k2⟩:=fu 2 22 v2 rfl rfl;obtain⟨x2,bS,xN⟩:=uI k2 h2;obtain⟨_,k3⟩:=fu 3 3 v3 rfl rfl;obtain⟨a3,rfl,Ym⟩:=qM k3 h3;obtain⟨_,k4⟩:=fu 4 3 v4 rfl rfl;obtain⟨a4,rfl,Yn⟩:=qM k4 h4;obtain⟨_,k5⟩:=fu 5 3 v5 rfl rfl;obtain⟨a5,rfl,Yo⟩:=qM k5 h5;obtain⟨_,k6⟩:=fu 6 3 v6 rfl rfl;obtain⟨a6,rfl,Yp⟩:=qM k6 h6;rw[MakeChecks.laidMetH_plain _ _ _ (by kernel_rfl)]at hL;exact Bs (by kernel_rfl) rfl rfl (by kernel_rfl) Yj (AA v0 x0 v1 x1 v2 x2 a3 a4 a5 a6 (vH W) (PZ hL nN) aH Yl aU aP bS xN Ym Yn Yo Yp)
theorem yK:(Rows.topKnownThenRow.inPlace==Tryz.prog.inPlace 3)=true:=by kernel_rfl
theorem yL:(Rows.topKnownThenRow.unfollowed==Tryz.prog.unfollowed 3)=true:=by kernel_rfl
theorem yM:(Rows.topKnownThenRow.recurses==Tryz.prog.recurses 3)=true:=by kernel_rfl
theorem yN:(Rows.topKnownThenRow.named==Tryz.prog.varsNamed 3)=true:=by kernel_rfl
theorem yO:(Rows.topKnownThenRow.wf (OpenSpec.ofChange Rows.topKnownThenSpec)&&Tryz.f3.params.all (Tryz.prog.readableRec ·)&&namedTie Tryz.prog Rows.topKnownThenRow.named Rows.topKnownThenSpec.vars)=true:=by kernel_rfl
theorem vT:mapsRowed Tryz.prog=true:=by kernel_rfl
theorem yP:(Tryz.prog.mayEnter&&(Rows.topKnownThenRow.lifted==Tryz.prog.liftsFinal)&&(Tryz.prog.make==some Rows.topKnownThenRow.make))=true:=by kernel_rfl
theorem yQ:((Rows.topKnownThenRow.plainKeys==Tryz.prog.plainKeys)&&Tryz.prog.stopsHeard&&(Tryz.prog.stops==[])&&(Tryz.prog.stopKnobs==[]))=true:=by kernel_rfl
theorem rn:Tryz.prog.funcNamed Rows.topKnownThenRow.func=some 3:=by kernel_rfl
theorem yR:Tryz.prog.mainIs=some (true, "8dabaefc02998928514a6f3228580a40fa6fbd2eb7845c55793bc2e91795409e".toList):=by kernel_rfl
theorem vU:true=Tryz.prog.looks []:=by kernel_rfl
theorem vV:false=Rows.topKnownThenRow.goesBy Tryz.prog:=by kernel_rfl
theorem vW:Rows.TopKnownThenSaid:=
 OpenClaim.holds_of_wide 3 Tryz.f3 rfl rfl rfl rfl rfl rfl rfl ⟨rfl,rfl,rfl,rfl,rfl⟩ rfl rfl rfl rfl rfl rn Tryz.func3 (DW yK yL yM yN yO laidOut vT yP yQ (by kernel_rfl))
  (of_decide_eq_true (by kernel_rfl)) (by unfold Func.isWrapper;first|(rw[if_pos (by decide+kernel)];kernel_rfl)|(rw[if_neg (by decide+kernel)];exact⟨rfl,rfl⟩))
  (fun os started H enc _=>so os started H enc)
theorem knownThen_holds:Rows.TopKnownThenCardSaid:=
 Claim7.holds_tied_plain_at .later [] [.data,.data,.data,.data,.sentinel,.sentinel,.pinned] true (true, "8dabaefc02998928514a6f3228580a40fa6fbd2eb7845c55793bc2e91795409e") true
  vW (fun _ h=>by cases h) (by kernel_rfl) (fun _ h=>by cases h) topKnownThen_row_tie rfl ⟨rfl,rfl⟩ yR rfl
  (fun f fn hf H0=>by
   obtain rfl:f=3:=Option.some.inj ((show Tryz.prog.funcNamed "cleanroom/cleanroomtop.TopKnownThen" =some 3 from rn).symm.trans hf)|>.symm;obtain rfl:fn=Tryz.f3:=(Option.some.inj (Tryz.func3.symm.trans H0)).symm;exact⟨vU,fun j t ht=>by
    rw[Tryz.params3]at ht;have hm:t∈[22,22,22,3,3,3,3]:=by simpa using Array.mem_of_getElem? ht
    have cR:([22,22,22,3,3,3,3].all fun u=> !Tryz.prog.wantsStandIn u)=true:=by kernel_rfl
    exact(show Tryz.prog.wantsStandIn t=false by simpa using List.all_eq_true.1 cR t hm)⟩)
  vV
end Go.Proofs.YtgehbndkogohpaaGreatDoor
