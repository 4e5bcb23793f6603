/- PermitExactly: an act is permitted exactly if its wafer's flow, its step, tool, recipe, qualification and holds allow it: for every input; the listed package-level variables (tables and errors of the library's) read as the program's text lays them. -/
import Derived.Test.YtebobfdheanknaaGreatDoorYo
import Derived.Test.YtebobfdheanknaaGreatDoorTie
import Derived.Test.YtebobfdheanknaaGreatDoorCards
import Derived.ProofKit
import Derived.LaidOnce
import Derived.SevenTiedAt
namespace Go.Proofs.YtebobfdheanknaaGreatDoor
open Go Go.K Go.RowKit Go.ChangeShapes Go.WideShapes Go.ChangeAt
set_option maxRecDepth 100000
theorem uF(os:Os)(started:os.Started)(H:Type)(enc:TypeId×Value→H):
  ReturnsInHanded {} Tryz.checked os 5 .any (fun w args=>(Rows.permitExactlySpec.pre enc Tryz.prog Tryz.f5 [] false w args∧laidMetH Tryz.prog tI w)∧sizedMet enc Tryz.prog Tryz.f5 (OpenSpec.ofChange Rows.permitExactlySpec) false w args)
   (Rows.permitExactlySpec.post enc Tryz.prog Tryz.f5 false true false false):=by
 refine oP (C:=Tryz.checked) (X:=fun w _=>laidMetH Tryz.prog tI w) (fun _ _ _ hh h=>h.of_heap hh) wY started (by kernel_rfl) Tryz.func5
  (ChangeSpec.witness_shaped (enc:=enc) (C:=Tryz.checked) (os:=os) (X:=fun w _=>laidMetH Tryz.prog tI w) false (World.laidAll Tryz.prog os tI) #[.slice none 0 0,.slice none 0 0,.slice none 0 0,.agg #[.int .i64 0,.int .i64 0,.int .i64 0,.int .i64 0,.int .i64 0,.int .i64 0,.int .i64 0]] 8 (World.laidAll_os _ _ _)
   (World.shaped_of_ZipB (by kernel_rfl) (by kernel_rfl)) (by kernel_rfl) (by kernel_rfl) (by kernel_rfl) (GY os _)) ?_
 intro W args ds gs before OR hW hL mU
 have iG: ∀(j:Nat) t v,Tryz.f5.params[j]? =some t→args[j]? =some v→ ∃base,Value.okWide Tryz.prog W .any base t v:=OR
 have VQ:=hW
 obtain⟨p,q,VR,hV,rfl,Xc,AN⟩:=hW
 have hA:DataW.TrodAll enc Tryz.prog W 0 (fun _=>true) true Tryz.f5.params.toList args.toList ds p:=VR
 rw[Tryz.params5]at hA iG
 obtain⟨v0,v1,v2,v3,d0,d1,d2,d3,p0,p1,p2,p3,rfl,rfl,rfl,h0,h1,h2,h3⟩:=trodAll_four hA
 obtain⟨rfl,rfl⟩:=trodVars_none hV
 obtain⟨_,k0⟩:=iG 0 22 v0 rfl rfl
 obtain⟨x0,aH,VS⟩:=EH k0 h0
 obtain⟨_,k1⟩:=iG 1 23 v1 rfl rfl
 obtain⟨x1,aT,aN⟩:=open_ints k1 h1
 obtain⟨_,k2⟩:=iG 2 24 v2 rfl rfl
 obtain⟨x2,bT,wF⟩:=Cq k2 h2
 obtain⟨_,k3⟩:=iG 3 43 v3 rfl rfl
 obtain⟨y3,rfl,VT⟩:=GX k3 h3
 rw[MakeChecks.laidMetH_plain _ _ _ (by kernel_rfl)]at hL
 exact Ad (by kernel_rfl) rfl rfl (by kernel_rfl) VQ (Ce v0 x0 v1 x1 v2 x2 y3 (r_ W) (N2 hL mU) aH VS aT aN bT wF VT)
theorem AA:(Rows.permitExactlyRow.inPlace==Tryz.prog.inPlace 5)=true:=by kernel_rfl
theorem AB:(Rows.permitExactlyRow.unfollowed==Tryz.prog.unfollowed 5)=true:=by kernel_rfl
theorem AD:(Rows.permitExactlyRow.recurses==Tryz.prog.recurses 5)=true:=by kernel_rfl
theorem AE:(Rows.permitExactlyRow.named==Tryz.prog.varsNamed 5)=true:=by kernel_rfl
theorem AF:(Rows.permitExactlyRow.wf (OpenSpec.ofChange Rows.permitExactlySpec)&&Tryz.f5.params.all (Tryz.prog.readableRec ·)&&namedTie Tryz.prog Rows.permitExactlyRow.named Rows.permitExactlySpec.vars)=true:=by kernel_rfl
theorem ze:mapsRowed Tryz.prog=true:=by kernel_rfl
theorem AG:(Tryz.prog.mayEnter&&(Rows.permitExactlyRow.lifted==Tryz.prog.liftsFinal)&&(Tryz.prog.make==some Rows.permitExactlyRow.make))=true:=by kernel_rfl
theorem AH:((Rows.permitExactlyRow.plainKeys==Tryz.prog.plainKeys)&&Tryz.prog.stopsHeard&&(Tryz.prog.stops==[])&&(Tryz.prog.stopKnobs==[]))=true:=by kernel_rfl
theorem uG:Tryz.prog.funcNamed Rows.permitExactlyRow.func=some 5:=by kernel_rfl
theorem AI:Tryz.prog.mainIs=some (true, "7883561ccd6e3ec7de47bbbc0187876f0e578c371406eba4874d10aebb56aee2".toList):=by kernel_rfl
theorem zf:true=Tryz.prog.looks []:=by kernel_rfl
theorem zg:false=Rows.permitExactlyRow.goesBy Tryz.prog:=by kernel_rfl
theorem zh:Rows.PermitExactlySaid:=
 OpenClaim.holds_of_wide 5 Tryz.f5 rfl rfl rfl rfl rfl rfl rfl ⟨rfl,rfl,rfl,rfl,rfl⟩ rfl rfl rfl rfl rfl uG Tryz.func5 (CE AA AB AD AE AF laidOut ze AG AH (by kernel_rfl))
  (of_decide_eq_true (by kernel_rfl)) (by unfold Func.isWrapper;first|(rw[if_pos (by decide+kernel)];kernel_rfl)|(rw[if_neg (by decide+kernel)];exact⟨rfl,rfl⟩))
  (fun os started H enc _=>uF os started H enc)
theorem exactly_holds:Rows.PermitExactlyCardSaid:=
 Claim7.holds_tied_plain_at .later [] [.data,.data,.data,.data,.sentinel,.sentinel,.pinned] true (true, "7883561ccd6e3ec7de47bbbc0187876f0e578c371406eba4874d10aebb56aee2") true
  zh (fun _ h=>by cases h) (by kernel_rfl) (fun _ h=>by cases h) permitExactly_row_tie rfl ⟨rfl,rfl⟩ AI rfl
  (fun f fn hf Gt=>by
   obtain rfl:f=5:=Option.some.inj ((show Tryz.prog.funcNamed "cleanroom/cleanroomlaw19.PermitExactly" =some 5 from uG).symm.trans hf)|>.symm
   obtain rfl:fn=Tryz.f5:=(Option.some.inj (Tryz.func5.symm.trans Gt)).symm
   exact⟨zf,fun j t ht=>by
    rw[Tryz.params5]at ht
    have hm:t∈[22,23,24,43]:=by simpa using Array.mem_of_getElem? ht
    have dh:([22,23,24,43].all fun u=> !Tryz.prog.wantsStandIn u)=true:=by kernel_rfl
    exact(show Tryz.prog.wantsStandIn t=false by simpa using List.all_eq_true.1 dh t hm)⟩)
  zg
end Go.Proofs.YtebobfdheanknaaGreatDoor
